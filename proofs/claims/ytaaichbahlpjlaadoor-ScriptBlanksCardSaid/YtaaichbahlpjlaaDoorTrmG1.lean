import Derived.Test.YtaaichbahlpjlaaDoorTrmPt
import Derived.Test.YtaaichbahlpjlaaDoorProg
import Derived.KernelRfl
set_option linter.unusedVariables false
set_option linter.unusedSimpArgs false
namespace Go.Trm.G1
open Go.Proofs
set_option maxRecDepth 100000
abbrev Ty0 : Ty := (.pair (.int .i64) (.pair (.int .i64) (.pair .bool (.pair (.int .u64) .unit))))
abbrev Ty1 : Ty := (.pair (.sl 36 (.int .u64)) (.pair (.int .i64) (.pair (.sl 5 (.int .u8)) .unit)))
abbrev It2 : Type := ((Bool) × (Bool) × (List (Int)) × (Int) × (List (Int)) × Unit) × (List UInt8) × (List (Int)) × (Int) × (Int) × (Int) × Unit
abbrev It3 : Type := (List (Int)) × ((Int) × (Bool) × (Int) × (Int) × (Bool) × (Int) × Unit) × It2
abbrev Ty4 : Ty := (.pair (.sl 36 (.int .u64)) (.pair (.int .i64) (.pair (.int .i64) (.pair (.int .i64) .unit))))
abbrev Ty5 : Ty := (.pair (.pair (.int .i64) (.pair .bool Ty0)) (.pair (.pair .bool (.pair .bool Ty1)) (.pair .str Ty4)))
abbrev Ty6 : Ty := (.pair (.int .i64) (.pair (.int .i64) (.pair .bool (.pair (.int .u8) .unit))))
abbrev Ty7 : Ty := (.sl 127 (.pair (.int .u16) (.pair (.int .u16) (.pair (.int .u16) .unit))))
abbrev Ty8 : Ty := (.sl 130 (.pair (.int .u32) (.pair (.int .u32) (.pair (.int .u32) .unit))))
abbrev Ty9 : Ty := (.ptr 127 (.pair (.int .u16) (.pair (.int .u16) (.pair (.int .u16) .unit))))
abbrev Ty10 : Ty := (.ptr 130 (.pair (.int .u32) (.pair (.int .u32) (.pair (.int .u32) .unit))))
noncomputable def envTy : TypeId → Option Ty
 | 2 => some (.int .i64)
 | 3 => some (.int .i64)
 | 4 => some .bool
 | 5 => some (.int .u8)
 | 6 => some (.int .u8)
 | 7 => some Ty6
 | 8 => some Ty6
 | 9 => some .str
 | 10 => some .str
 | 11 => some .str
 | 12 => some (.int .u64)
 | 13 => some (.pair .str (.pair (.int .u64) .unit))
 | 14 => some (.pair .str (.pair (.int .u64) .unit))
 | 21 => some (.int .i32)
 | 23 => some (.sl 43 (.pair (.int .i64) (.pair (.sl 5 (.int .u8)) Ty5)))
 | 24 => some (.int .i64)
 | 31 => some (.sl 5 (.int .u8))
 | 36 => some (.int .u64)
 | 37 => some (.pair (.int .i64) (.pair .bool Ty0))
 | 38 => some (.pair (.int .i64) (.pair .bool Ty0))
 | 39 => some (.sl 36 (.int .u64))
 | 40 => some (.pair .bool (.pair .bool Ty1))
 | 41 => some (.pair .bool (.pair .bool Ty1))
 | 42 => some (.pair (.int .i64) (.pair (.sl 5 (.int .u8)) Ty5))
 | 43 => some (.pair (.int .i64) (.pair (.sl 5 (.int .u8)) Ty5))
 | 44 => some (.sl 9 .str)
 | 53 => some (.sl 41 (.pair .bool (.pair .bool Ty1)))
 | 61 => some .err
 | 66 => some (.sl 68 (.pair (.int .i64) (.pair (.int .i64) .unit)))
 | 67 => some (.pair (.int .i64) (.pair (.int .i64) .unit))
 | 68 => some (.pair (.int .i64) (.pair (.int .i64) .unit))
 | 69 => some (.ptr 71 (.pair (.sl 9 .str) (.pair .bool .unit)))
 | 70 => some (.pair (.sl 9 .str) (.pair .bool .unit))
 | 71 => some (.pair (.sl 9 .str) (.pair .bool .unit))
 | 96 => some (.ptr 5 (.int .u8))
 | 106 => some (.arr 256 (.int .u8))
 | 107 => some (.int .u64)
 | 116 => some (.int .u32)
 | 118 => some (.ptr 124 (.pair Ty7 (.pair Ty8 (.pair (.int .i64) .unit))))
 | 121 => some Ty7
 | 122 => some Ty8
 | 123 => some (.pair Ty7 (.pair Ty8 (.pair (.int .i64) .unit)))
 | 124 => some (.pair Ty7 (.pair Ty8 (.pair (.int .i64) .unit)))
 | 125 => some (.int .u16)
 | 126 => some (.pair (.int .u16) (.pair (.int .u16) (.pair (.int .u16) .unit)))
 | 127 => some (.pair (.int .u16) (.pair (.int .u16) (.pair (.int .u16) .unit)))
 | 129 => some (.pair (.int .u32) (.pair (.int .u32) (.pair (.int .u32) .unit)))
 | 130 => some (.pair (.int .u32) (.pair (.int .u32) (.pair (.int .u32) .unit)))
 | 133 => some (.arr 24 (.int .u8))
 | 138 => some (.pair (.int .u8) (.pair (.int .u8) .unit))
 | 139 => some (.pair (.int .u8) (.pair (.int .u8) .unit))
 | 140 => some (.arr 16 (.pair (.int .u8) (.pair (.int .u8) .unit)))
 | 143 => some (.int .i64)
 | 145 => some (.ptr 157 (.pair .str (.pair .str (.pair .err .unit))))
 | 148 => some Ty9
 | 149 => some Ty10
 | 151 => some (.arr 20 (.int .u64))
 | 152 => some (.arr 65 (.int .u8))
 | 156 => some (.pair .str (.pair .str (.pair .err .unit)))
 | 157 => some (.pair .str (.pair .str (.pair .err .unit)))
 | 160 => some (.ptr 162 (.pair .str .unit))
 | 161 => some (.pair .str .unit)
 | 162 => some (.pair .str .unit)
 | 163 => some (.arr 32 (.int .u8))
 | 164 => some (.arr 64 (.int .u8))
 | 170 => some (.int .u8)
 | 171 => some (.int .u8)
 | 173 => some (.int .i32)
 | 174 => some (.int .i32)
 | _ => none
noncomputable def envEq : TypeId → Bool
 | 38 => true
 | _ => false
noncomputable def noG : FuncId → List FuncId → Option CSpec := fun _ _ => none
theorem envTyOk : EnvTy Tryd.prog { ty := envTy, gam := fun _ _ => none, n := 0, eq := envEq } := by
 refine ⟨fun T t h => ?_, fun T t h1 h2 => ?_⟩
 ·unfold envTy at h
  simp only at h
  split at h <;> first | (cases h; done) | (simp only [Option.some.injEq] at h; subst h; kernel_rfl)
 ·unfold envEq at h1
  simp only at h1
  first | (cases h1; done) | (split at h1 <;> first | (cases h1; done) | (simp only [envTy, Option.some.injEq] at h2; subst h2; kernel_rfl))
theorem mixed : Tryd.prog.follows .mixedOrders = true := by kernel_rfl
noncomputable def body (o : Option Code) : Code := match o with | some c => c | none => .skip
noncomputable def lp0 : Loops := fun _ _ _ _ _ => none
noncomputable def zrfa (id : Nat) : Code → Option Code
 | .loop c => match zoha c with
  | some i => match Nat.beq i id with
   | true => some c
   | false => zrfa id c
  | none => zrfa id c
 | .seq a b => match zrfa id a with
  | some c => some c
  | none => zrfa id b
 | .cond _ a b => match zrfa id a with
  | some c => some c
  | none => zrfa id b
 | .block _ c => zrfa id c
 | .scope c => zrfa id c
 | _ => none
noncomputable def joinC (id : Nat) : Code → Option Code
 | .seq a b => match zoha b with
  | some i => match Nat.beq i id with
   | true => some a
   | false => match joinC id a with
    | some c => some c
    | none => joinC id b
  | none => match joinC id a with
   | some c => some c
   | none => joinC id b
 | .cond _ a b => match joinC id a with
  | some c => some c
  | none => joinC id b
 | .block _ c => joinC id c
 | .scope c => joinC id c
 | .loop c => joinC id c
 | _ => none
noncomputable abbrev zaoa {R : Type} (a0 a1 : List UInt8) (K : List (List UInt8) → Option R) : Option R := zRma a0 a1 K
noncomputable abbrev znja : CSpec := zzra
theorem zfoa : Holds Tryd.prog 13 znja := zdwa
noncomputable def zXla : Env := { ty := envTy, eq := envEq, gam := noG, n := Tryd.f15.ntmps }
noncomputable def zlna {R : Type} (a0 : Int) (K : Bool → Option R) : Option R :=
 let v1 := a0 == (32 : Int)
 K v1
noncomputable def zGma : CSpec := { ins := [(.val (.int .i32) .s)], outs := [(.bool, .s)], fn := fun (d : Int × Unit) K _ => zlna d.1 (fun r0 => K ((r0, ()) : Bool × Unit) ((()) : Unit)) }
theorem zlta : Holds Tryd.prog 15 zGma := zsaa (env := zXla) (inl := inl0) (lp := lp0) (rs := [(2, none)]) (code := body Tryd.f15.body) ⟨mixed, envTyOk.ty, envTyOk.eq⟩ (fun _ _ _ h => by cases h) zTaa Tryd.func15 (zraa (by kernel_rfl) (by kernel_rfl)) (by kernel_rfl) (by kernel_rfl) (by kernel_rfl) (by kernel_rfl) (by kernel_rfl) (by kernel_rfl) fun d R K Kp => by kernel_rfl
noncomputable def zlja : Env := { ty := envTy, eq := envEq, gam := noG, n := Tryd.f35.ntmps }
noncomputable def zhaa {R : Type} (a0 : (List (List UInt8)) × (Bool) × Unit) (K : Bool → ((List (List UInt8)) × (Bool) × Unit) → Option R) : Option R :=
 let v1 := ((List.length a0.1 : Nat) : Int)
 let v2 := decide (v1 > (0 : Int))
 K v2 a0
noncomputable def zWaa : CSpec := { ins := [(.ref (.pair (.sl 9 .str) (.pair .bool .unit)) .s .s)], outs := [(.bool, .s)], fn := fun (d : ((List (List UInt8)) × (Bool) × Unit) × Unit) K _ => zhaa d.1 (fun r0 b0 => K ((r0, ()) : Bool × Unit) ((b0, ()) : ((List (List UInt8)) × (Bool) × Unit) × Unit)) }
theorem zYba : Holds Tryd.prog 35 zWaa := zsaa (env := zlja) (inl := inl0) (lp := lp0) (rs := [(2, none)]) (code := body Tryd.f35.body) ⟨mixed, envTyOk.ty, envTyOk.eq⟩ (fun _ _ _ h => by cases h) zTaa Tryd.func35 (zraa (by kernel_rfl) (by kernel_rfl)) (by kernel_rfl) (by kernel_rfl) (by kernel_rfl) (by kernel_rfl) (by kernel_rfl) (by kernel_rfl) fun d R K Kp => by kernel_rfl
noncomputable def zbea : List (FuncId × List FuncId × CSpec) := [(35, [], zWaa)]
noncomputable def zyja : Nat → Bool
 | 21 => true
 | _ => false
noncomputable def zNea : Env := { ty := envTy, eq := envEq, gam := (gamL zbea), n := Tryd.f28.ntmps, sb := zyja, al := [0, 4] }
theorem zKha : EnvFn Tryd.prog zNea := fun f gs c h => zKba (l := zbea) ⟨zYba, trivial⟩ f gs c h
noncomputable def zqaa {R : Type} (a0 : (List (List UInt8)) × (Bool) × Unit) (K : (List UInt8) → ((List (List UInt8)) × (Bool) × Unit) → Option R) : Option R :=
 zhaa a0 fun r1 b2 =>
 let v3 := !r1
 cond v3
 (K ([] : List UInt8) (b2.1, (true, b2.2.2)))
 (cond (inB (0 : Int) (List.length b2.1))
 (let v4 := List.getD b2.1 (0 : Int).toNat ([] : List UInt8)
 cond (inR (1 : Int) ((List.length b2.1 : Nat) : Int) (List.length b2.1))
 (let v5 := rng b2.1 (1 : Int) ((List.length b2.1 : Nat) : Int)
 K v4 (v5, b2.2)) none) none)
noncomputable def zyaa : CSpec := { ins := [(.ref (.pair (.sl 9 .str) (.pair .bool .unit)) .s .s)], outs := [(.str, .s)], fn := fun (d : ((List (List UInt8)) × (Bool) × Unit) × Unit) K _ => zqaa d.1 (fun r0 b0 => K ((r0, ()) : (List UInt8) × Unit) ((b0, ()) : ((List (List UInt8)) × (Bool) × Unit) × Unit)) }
theorem zNaa : Holds Tryd.prog 28 zyaa := zsaa (env := zNea) (inl := inl0) (lp := lp0) (rs := [(2, none)]) (code := body Tryd.f28.body) ⟨mixed, envTyOk.ty, envTyOk.eq⟩ zKha zTaa Tryd.func28 (zraa (by kernel_rfl) (by kernel_rfl)) (by kernel_rfl) (by kernel_rfl) (by kernel_rfl) (by kernel_rfl) (by kernel_rfl) (by kernel_rfl) fun d R K Kp => by kernel_rfl
noncomputable abbrev zqda {R : Type} (a0 : List UInt8) (a1 : Int) (K : Int → Option R) : Option R := zRia a0 a1 K
noncomputable abbrev zBfa : CSpec := zgma
theorem zMka : Holds Tryd.prog 58 zBfa := zDqa
noncomputable def zLea : List (FuncId × List FuncId × CSpec) := [(28, [], zyaa), (58, [], zBfa)]
noncomputable def zIaa : Env := { ty := envTy, eq := envEq, gam := (gamL zLea), n := Tryd.f29.ntmps, al := [0, 8] }
theorem zzia : EnvFn Tryd.prog zIaa := fun f gs c h => zKba (l := zLea) ⟨zNaa, zMka, trivial⟩ f gs c h
structure zJaa where
 f3 : List UInt8
 f4 : List (Int)
 f5 : Int
 f1000000 : (List (List UInt8)) × (Bool) × Unit
noncomputable def zLaa {R : Type} (k_ret : (List (Int)) → ((List (List UInt8)) × (Bool) × Unit) → Option R) (k_exit_0 : (List (Int)) → ((List (List UInt8)) × (Bool) × Unit) → Option R) (rec : zJaa → Option R) (x : zJaa) : Option R :=
 let v1 := ((List.length x.f3 : Nat) : Int)
 let v2 := decide (x.f5 < v1)
 cond v2
 (cond (inB x.f5 (List.length x.f3))
 (let v3 := bt x.f3 x.f5
 let v4 := IntKind.i64.wrap (x.f5 + (1 : Int))
 cond (inB v4 (List.length x.f3))
 (let v5 := bt x.f3 v4
 zqda ([48, 49, 50, 51, 52, 53, 54, 55, 56, 57, 97, 98, 99, 100, 101, 102] : List UInt8) v3 fun r6 =>
 zqda ([48, 49, 50, 51, 52, 53, 54, 55, 56, 57, 97, 98, 99, 100, 101, 102] : List UInt8) v5 fun r7 =>
 let v8 := decide (r6 < (0 : Int))
 cond v8
 (k_ret ([] : List (Int)) (x.f1000000.1, (true, x.f1000000.2.2)))
 (let v9 := decide (r7 < (0 : Int))
 cond v9
 (k_ret ([] : List (Int)) (x.f1000000.1, (true, x.f1000000.2.2)))
 (let v10 := IntKind.i64.wrap ((16 : Int) * r6)
 let v11 := IntKind.i64.wrap (v10 + r7)
 let v12 := IntKind.u8.wrap v11
 let v13 := List.set (List.replicate 1 (0 : Int)) 0 v12
 cond (decide (List.length x.f4 + List.length v13 ≤ most))
 (let v14 := x.f4 ++ v13
 let v15 := IntKind.i64.wrap (x.f5 + (2 : Int))
 rec ⟨x.f3, v14, v15, x.f1000000⟩) none))) none) none)
 (k_exit_0 x.f4 x.f1000000)
noncomputable def zGja (x : zJaa) : St := St.ofList [(0, (.al 1000000 [.der])), (3, (.v .str .s x.f3)), (4, (.v (.sl 5 (.int .u8)) (.o .s) x.f4)), (5, (.v (.int .i64) .s x.f5)), (1000000, (.v (.ptr 0 (.pair (.sl 9 .str) (.pair .bool .unit))) (.o .s) (some x.f1000000)))]
def zria : Ex → List (Nat × Bool) | .ret => [(2, false), (1000000, false)] | .exit 0 => [(4, false), (1000000, false)] | _ => []
def zIea : List (Nat × Bool) := [(0, false), (3, false), (4, false), (5, false), (1000000, false)]
noncomputable def zCea : Pt zJaa := .s 0 (sAl 1000000 [.der]) fun _ => .s 3 (sV .str .s) fun y3 => .s 4 (sV (.sl 5 (.int .u8)) (.o .s)) fun y4 => .s 5 (sV (.int .i64) .s) fun y5 => .s 1000000 (sP 0 (.pair (.sl 9 .str) (.pair .bool .unit)) (.o .s)) fun y1000000 => .e ⟨y3, y4, y5, y1000000⟩
noncomputable def zffa (R : Type) (K : Ex → St → Option R) : (zJaa → Option R) → zJaa → Option R := zLaa (fun e2 e1000000 => K .ret (St.ofList [(2, (.v (.sl 5 (.int .u8)) (.o .s) e2)), (1000000, (.v (.ptr 0 (.pair (.sl 9 .str) (.pair .bool .unit))) (.o .s) (some e1000000)))])) (fun e4 e1000000 => K (.exit 0) (St.ofList [(4, (.v (.sl 5 (.int .u8)) (.o .s) e4)), (1000000, (.v (.ptr 0 (.pair (.sl 9 .str) (.pair .bool .unit))) (.o .s) (some e1000000)))]))
noncomputable def zFca : Code := match zrfa 7 (body Tryd.f29.body) with | some c => c | none => .skip
noncomputable def zUba : Loops := fun z i R st K => match z, i with
 | false, 7 => lpE zIea zCea (lpL zffa K) st
 | _, _ => none
theorem zuha : LStep zIaa zUba inl0 zFca zIea zria zGja zffa := fun R K rec x => by kernel_rfl
theorem zOia : zrha zIaa zUba inl0 zFca := zWba zuha (p := zCea) (i := 7) (fun _ _ _ _ _ => ⟨rfl, rfl⟩) (by kernel_rfl) (fun R st K => by kernel_rfl)
theorem zuia : zZaa zIaa zUba inl0 (body Tryd.f29.body) := by
 refine zCaa (fun c hc => ?_) (fun c hc => ?_)
 ·rw [show zlea (body Tryd.f29.body) = [zFca] by kernel_rfl] at hc
  simp only [List.mem_cons, List.not_mem_nil, or_false] at hc
  rcases hc with rfl
  ·exact zOia
 ·rw [show zmea zIaa (body Tryd.f29.body) = [] by kernel_rfl] at hc; cases hc
noncomputable def zzaa {R : Type} (a0 : (List (List UInt8)) × (Bool) × Unit) (K : (List (Int)) → ((List (List UInt8)) × (Bool) × Unit) → Option R) : Option R :=
 zqaa a0 fun r1 b2 =>
 let v3 := ((List.length r1 : Nat) : Int)
 let v4 := v3 == (0 : Int)
 cond v4
 (K ([] : List (Int)) (b2.1, (true, b2.2.2)))
 (let v5 := ((List.length r1 : Nat) : Int)
 cond ((2 : Int) != 0)
 (let v6 := Int.tmod v5 (2 : Int)
 let v7 := v6 != (0 : Int)
 cond v7
 (K ([] : List (Int)) (b2.1, (true, b2.2.2)))
 (loopN (zLaa (fun w8 w9 =>
 K w8 w9) (fun w10 w11 =>
 K w10 w11)) zyfa ⟨r1, ([] : List (Int)), (0 : Int), b2⟩)) none)
noncomputable def zUca : CSpec := { ins := [(.ref (.pair (.sl 9 .str) (.pair .bool .unit)) .s .s)], outs := [((.sl 5 (.int .u8)), (.o .s))], fn := fun (d : ((List (List UInt8)) × (Bool) × Unit) × Unit) K _ => zzaa d.1 (fun r0 b0 => K ((r0, ()) : (List (Int)) × Unit) ((b0, ()) : ((List (List UInt8)) × (Bool) × Unit) × Unit)) }
theorem zega : Holds Tryd.prog 29 zUca := zsaa (env := zIaa) (inl := inl0) (lp := zUba) (rs := [(2, none)]) (code := body Tryd.f29.body) ⟨mixed, envTyOk.ty, envTyOk.eq⟩ zzia zTaa Tryd.func29 zuia (by kernel_rfl) (by kernel_rfl) (by kernel_rfl) (by kernel_rfl) (by kernel_rfl) (by kernel_rfl) fun d R K Kp => by kernel_rfl
noncomputable def zZea : List (FuncId × List FuncId × CSpec) := [(35, [], zWaa), (28, [], zyaa)]
noncomputable def zzfa : Env := { ty := envTy, eq := envEq, gam := (gamL zZea), n := Tryd.f59.ntmps, al := [0, 5, 9, 10, 11, 18] }
theorem zhja : EnvFn Tryd.prog zzfa := fun f gs c h => zKba (l := zZea) ⟨zYba, zNaa, trivial⟩ f gs c h
noncomputable def zeaa {R : Type} (a0 : (List (List UInt8)) × (Bool) × Unit) (a1 : List UInt8) (K : Bool → ((List (List UInt8)) × (Bool) × Unit) → Option R) : Option R :=
 zhaa a0 fun r1 b2 =>
 let v3 := !r1
 cond v3
 (K false b2)
 (cond (inB (0 : Int) (List.length b2.1))
 (let v4 := List.getD b2.1 (0 : Int).toNat ([] : List UInt8)
 let v5 := !(v4 == a1)
 cond v5
 (K false b2)
 (zqaa b2 fun r6 b7 =>
 K true b7)) none)
noncomputable def zIda : CSpec := { ins := [(.ref (.pair (.sl 9 .str) (.pair .bool .unit)) .s .s), (.val .str .s)], outs := [(.bool, .s)], fn := fun (d : ((List (List UInt8)) × (Bool) × Unit) × (List UInt8) × Unit) K _ => zeaa d.1 d.2.1 (fun r0 b0 => K ((r0, ()) : Bool × Unit) ((b0, ()) : ((List (List UInt8)) × (Bool) × Unit) × Unit)) }
theorem zjha : Holds Tryd.prog 59 zIda := zsaa (env := zzfa) (inl := inl0) (lp := lp0) (rs := [(4, none)]) (code := body Tryd.f59.body) ⟨mixed, envTyOk.ty, envTyOk.eq⟩ zhja zTaa Tryd.func59 (zraa (by kernel_rfl) (by kernel_rfl)) (by kernel_rfl) (by kernel_rfl) (by kernel_rfl) (by kernel_rfl) (by kernel_rfl) (by kernel_rfl) fun d R K Kp => by kernel_rfl
noncomputable abbrev zRfa {R : Type} (a0 : List UInt8) (a1 a2 : Int) (K : Int → Bool → Option R) : Option R := zQia a0 a1 a2 K
noncomputable abbrev zCfa : CSpec := zfma
theorem zNka : Holds Tryd.prog 76 zCfa := zCqa
noncomputable def zHna : Env := { ty := envTy, eq := envEq, gam := noG, n := Tryd.f62.ntmps }
noncomputable def zuca {R : Type} (a0 : Int) (K : Bool → Option R) : Option R :=
 let v1 := decide (a0 ≥ (48 : Int))
 cond v1
 (let v2 := decide (a0 ≤ (57 : Int))
 K v2)
 (K false)
noncomputable def zsea : CSpec := { ins := [(.val (.int .u8) .s)], outs := [(.bool, .s)], fn := fun (d : Int × Unit) K _ => zuca d.1 (fun r0 => K ((r0, ()) : Bool × Unit) ((()) : Unit)) }
theorem zHha : Holds Tryd.prog 62 zsea := zsaa (env := zHna) (inl := inl0) (lp := lp0) (rs := [(2, none)]) (code := body Tryd.f62.body) ⟨mixed, envTyOk.ty, envTyOk.eq⟩ (fun _ _ _ h => by cases h) zTaa Tryd.func62 (zraa (by kernel_rfl) (by kernel_rfl)) (by kernel_rfl) (by kernel_rfl) (by kernel_rfl) (by kernel_rfl) (by kernel_rfl) (by kernel_rfl) fun d R K Kp => by kernel_rfl
noncomputable def zAda : List (FuncId × List FuncId × CSpec) := [(28, [], zyaa), (76, [], zCfa), (62, [], zsea)]
noncomputable def zeea : Env := { ty := envTy, eq := envEq, gam := (gamL zAda), n := Tryd.f61.ntmps, al := [0, 6] }
theorem zlha : EnvFn Tryd.prog zeea := fun f gs c h => zKba (l := zAda) ⟨zNaa, zNka, zHha, trivial⟩ f gs c h
noncomputable def zHaa {R : Type} (a0 : (List (List UInt8)) × (Bool) × Unit) (K : Int → ((List (List UInt8)) × (Bool) × Unit) → Option R) : Option R :=
 zqaa a0 fun r1 b2 =>
 zRfa r1 (10 : Int) (64 : Int) fun r3 r4 =>
 cond r4
 (K (0 : Int) (b2.1, (true, b2.2.2)))
 (cond (inB (0 : Int) (List.length r1))
 (let v5 := bt r1 (0 : Int)
 zuca v5 fun r6 =>
 let v7 := !r6
 cond v7
 (K (0 : Int) (b2.1, (true, b2.2.2)))
 (cond (inB (0 : Int) (List.length r1))
 (let v8 := bt r1 (0 : Int)
 let v9 := v8 == (48 : Int)
 cond v9
 (let v10 := ((List.length r1 : Nat) : Int)
 let v11 := decide (v10 > (1 : Int))
 cond v11
 (K (0 : Int) (b2.1, (true, b2.2.2)))
 (K r3 b2))
 (K r3 b2)) none)) none)
noncomputable def zDba : CSpec := { ins := [(.ref (.pair (.sl 9 .str) (.pair .bool .unit)) .s .s)], outs := [((.int .u64), .s)], fn := fun (d : ((List (List UInt8)) × (Bool) × Unit) × Unit) K _ => zHaa d.1 (fun r0 b0 => K ((r0, ()) : Int × Unit) ((b0, ()) : ((List (List UInt8)) × (Bool) × Unit) × Unit)) }
theorem zEca : Holds Tryd.prog 61 zDba := zsaa (env := zeea) (inl := inl0) (lp := lp0) (rs := [(2, none)]) (code := body Tryd.f61.body) ⟨mixed, envTyOk.ty, envTyOk.eq⟩ zlha zTaa Tryd.func61 (zraa (by kernel_rfl) (by kernel_rfl)) (by kernel_rfl) (by kernel_rfl) (by kernel_rfl) (by kernel_rfl) (by kernel_rfl) (by kernel_rfl) fun d R K Kp => by kernel_rfl
noncomputable def zkda : List (FuncId × List FuncId × CSpec) := [(61, [], zDba)]
noncomputable def zCda : Env := { ty := envTy, eq := envEq, gam := (gamL zkda), n := Tryd.f32.ntmps, al := [0, 4] }
theorem zqga : EnvFn Tryd.prog zCda := fun f gs c h => zKba (l := zkda) ⟨zEca, trivial⟩ f gs c h
noncomputable def zbaa {R : Type} (a0 : (List (List UInt8)) × (Bool) × Unit) (K : Int → ((List (List UInt8)) × (Bool) × Unit) → Option R) : Option R :=
 zHaa a0 fun r1 b2 =>
 let v3 := decide (r1 ≥ (4294967296 : Int))
 cond v3
 (K (0 : Int) (b2.1, (true, b2.2.2)))
 (let v4 := IntKind.i64.wrap r1
 K v4 b2)
noncomputable def zlba : CSpec := { ins := [(.ref (.pair (.sl 9 .str) (.pair .bool .unit)) .s .s)], outs := [((.int .i64), .s)], fn := fun (d : ((List (List UInt8)) × (Bool) × Unit) × Unit) K _ => zbaa d.1 (fun r0 b0 => K ((r0, ()) : Int × Unit) ((b0, ()) : ((List (List UInt8)) × (Bool) × Unit) × Unit)) }
theorem zrca : Holds Tryd.prog 32 zlba := zsaa (env := zCda) (inl := inl0) (lp := lp0) (rs := [(2, none)]) (code := body Tryd.f32.body) ⟨mixed, envTyOk.ty, envTyOk.eq⟩ zqga zTaa Tryd.func32 (zraa (by kernel_rfl) (by kernel_rfl)) (by kernel_rfl) (by kernel_rfl) (by kernel_rfl) (by kernel_rfl) (by kernel_rfl) (by kernel_rfl) fun d R K Kp => by kernel_rfl
noncomputable def zJca : List (FuncId × List FuncId × CSpec) := [(28, [], zyaa)]
noncomputable def zmda : Env := { ty := envTy, eq := envEq, gam := (gamL zJca), n := Tryd.f60.ntmps, al := [0, 3] }
theorem zNfa : EnvFn Tryd.prog zmda := fun f gs c h => zKba (l := zJca) ⟨zNaa, trivial⟩ f gs c h
noncomputable def ziba {R : Type} (a0 : (List (List UInt8)) × (Bool) × Unit) (K : Int → ((List (List UInt8)) × (Bool) × Unit) → Option R) : Option R :=
 zqaa a0 fun r1 b2 =>
 let v3 := r1 == ([105, 51, 50] : List UInt8)
 cond v3
 (K (127 : Int) b2)
 (let v4 := r1 == ([105, 54, 52] : List UInt8)
 cond v4
 (K (126 : Int) b2)
 (K (0 : Int) (b2.1, (true, b2.2.2))))
noncomputable def zHda : CSpec := { ins := [(.ref (.pair (.sl 9 .str) (.pair .bool .unit)) .s .s)], outs := [((.int .i64), .s)], fn := fun (d : ((List (List UInt8)) × (Bool) × Unit) × Unit) K _ => ziba d.1 (fun r0 b0 => K ((r0, ()) : Int × Unit) ((b0, ()) : ((List (List UInt8)) × (Bool) × Unit) × Unit)) }
theorem zxia : Holds Tryd.prog 60 zHda := zsaa (env := zmda) (inl := inl0) (lp := lp0) (rs := [(2, none)]) (code := body Tryd.f60.body) ⟨mixed, envTyOk.ty, envTyOk.eq⟩ zNfa zTaa Tryd.func60 (zraa (by kernel_rfl) (by kernel_rfl)) (by kernel_rfl) (by kernel_rfl) (by kernel_rfl) (by kernel_rfl) (by kernel_rfl) (by kernel_rfl) fun d R K Kp => by kernel_rfl
noncomputable def zBda : List (FuncId × List FuncId × CSpec) := [(59, [], zIda), (32, [], zlba), (60, [], zHda), (61, [], zDba)]
noncomputable def zfea : Env := { ty := envTy, eq := envEq, gam := (gamL zBda), n := Tryd.f30.ntmps, al := [0, 4, 7, 10, 13, 15, 20, 23, 26] }
theorem zmha : EnvFn Tryd.prog zfea := fun f gs c h => zKba (l := zBda) ⟨zjha, zrca, zxia, zEca, trivial⟩ f gs c h
noncomputable def zHba {R : Type} (a0 : (List (List UInt8)) × (Bool) × Unit) (K : ((Int) × (Bool) × (Int) × (Int) × (Bool) × (Int) × Unit) → ((List (List UInt8)) × (Bool) × Unit) → Option R) : Option R :=
 zeaa a0 ([116, 97, 98, 108, 101] : List UInt8) fun r1 b2 =>
 cond r1
 (zbaa b2 fun r3 b4 =>
 zeaa b4 ([109, 97, 120] : List UInt8) fun r5 b6 =>
 cond r5
 (zbaa b6 fun r7 b8 =>
 K (r3, (true, (r7, ((0 : Int), (false, ((0 : Int), ())))))) b8)
 (K (r3, (false, ((0 : Int), ((0 : Int), (false, ((0 : Int), ())))))) b6))
 (zeaa b2 ([109, 101, 109, 111, 114, 121] : List UInt8) fun r9 b10 =>
 cond r9
 (zbaa b10 fun r11 b12 =>
 zeaa b12 ([109, 97, 120] : List UInt8) fun r13 b14 =>
 cond r13
 (zbaa b14 fun r15 b16 =>
 K (r11, (true, (r15, ((0 : Int), (false, ((0 : Int), ())))))) b16)
 (K (r11, (false, ((0 : Int), ((0 : Int), (false, ((0 : Int), ())))))) b14))
 (zeaa b10 ([118, 97, 114] : List UInt8) fun r17 b18 =>
 ziba b18 fun r19 b20 =>
 zHaa b20 fun r21 b22 =>
 K ((0 : Int), (false, ((0 : Int), (r19, (r17, (r21, ())))))) b22))
noncomputable def zPea : CSpec := { ins := [(.ref (.pair (.sl 9 .str) (.pair .bool .unit)) .s .s)], outs := [((.pair (.int .i64) (.pair .bool Ty0)), .s)], fn := fun (d : ((List (List UInt8)) × (Bool) × Unit) × Unit) K _ => zHba d.1 (fun r0 b0 => K ((r0, ()) : ((Int) × (Bool) × (Int) × (Int) × (Bool) × (Int) × Unit) × Unit) ((b0, ()) : ((List (List UInt8)) × (Bool) × Unit) × Unit)) }
theorem zFja : Holds Tryd.prog 30 zPea := zsaa (env := zfea) (inl := inl0) (lp := lp0) (rs := [(2, some 38)]) (code := body Tryd.f30.body) ⟨mixed, envTyOk.ty, envTyOk.eq⟩ zmha zTaa Tryd.func30 (zraa (by kernel_rfl) (by kernel_rfl)) (by kernel_rfl) (by kernel_rfl) (by kernel_rfl) (by kernel_rfl) (by kernel_rfl) (by kernel_rfl) fun d R K Kp => by kernel_rfl
noncomputable def zjda : List (FuncId × List FuncId × CSpec) := [(35, [], zWaa), (62, [], zsea), (61, [], zDba)]
noncomputable def zuaa : Env := { ty := envTy, eq := envEq, gam := (gamL zjda), n := Tryd.f34.ntmps, al := [0, 4, 7, 8, 9, 17] }
theorem zpga : EnvFn Tryd.prog zuaa := fun f gs c h => zKba (l := zjda) ⟨zYba, zHha, zEca, trivial⟩ f gs c h
structure zvaa where
 f3 : List (Int)
 f1000000 : (List (List UInt8)) × (Bool) × Unit
noncomputable def zwaa {R : Type} (k_exit_0 : (List (Int)) → ((List (List UInt8)) × (Bool) × Unit) → Option R) (rec : zvaa → Option R) (x : zvaa) : Option R :=
 zhaa x.f1000000 fun r1 b2 =>
 cond r1
 (cond (inB (0 : Int) (List.length b2.1))
 (let v3 := List.getD b2.1 (0 : Int).toNat ([] : List UInt8)
 cond (inB (0 : Int) (List.length v3))
 (let v4 := bt v3 (0 : Int)
 zuca v4 fun r5 =>
 cond r5
 (zHaa b2 fun r6 b7 =>
 let v8 := List.set (List.replicate 1 (0 : Int)) 0 r6
 cond (decide (List.length x.f3 + List.length v8 ≤ most))
 (let v9 := x.f3 ++ v8
 rec ⟨v9, b7⟩) none)
 (k_exit_0 x.f3 b2)) none) none)
 (k_exit_0 x.f3 b2)
noncomputable def zRha (x : zvaa) : St := St.ofList [(0, (.al 1000000 [.der])), (3, (.v (.sl 36 (.int .u64)) (.o .s) x.f3)), (1000000, (.v (.ptr 0 (.pair (.sl 9 .str) (.pair .bool .unit))) (.o .s) (some x.f1000000)))]
def zkga : Ex → List (Nat × Bool) | .exit 0 => [(0, false), (3, false), (1000000, false)] | _ => []
def zhda : List (Nat × Bool) := [(0, false), (3, false), (1000000, false)]
noncomputable def zXca : Pt zvaa := .s 0 (sAl 1000000 [.der]) fun _ => .s 3 (sV (.sl 36 (.int .u64)) (.o .s)) fun y3 => .s 1000000 (sP 0 (.pair (.sl 9 .str) (.pair .bool .unit)) (.o .s)) fun y1000000 => .e ⟨y3, y1000000⟩
noncomputable def zVda (R : Type) (K : Ex → St → Option R) : (zvaa → Option R) → zvaa → Option R := zwaa (fun e3 e1000000 => K (.exit 0) (St.ofList [(0, (.al 1000000 [.der])), (3, (.v (.sl 36 (.int .u64)) (.o .s) e3)), (1000000, (.v (.ptr 0 (.pair (.sl 9 .str) (.pair .bool .unit))) (.o .s) (some e1000000)))]))
noncomputable def zZba : Code := match zrfa 2 (body Tryd.f34.body) with | some c => c | none => .skip
noncomputable def zjba : Loops := fun z i R st K => match z, i with
 | false, 2 => lpE zhda zXca (lpL zVda K) st
 | _, _ => none
theorem zIfa : LStep zuaa zjba inl0 zZba zhda zkga zRha zVda := fun R K rec x => by kernel_rfl
theorem zIga : zrha zuaa zjba inl0 zZba := zWba zIfa (p := zXca) (i := 2) (fun _ _ _ => ⟨rfl, rfl⟩) (by kernel_rfl) (fun R st K => by kernel_rfl)
theorem zlga : zZaa zuaa zjba inl0 (body Tryd.f34.body) := by
 refine zCaa (fun c hc => ?_) (fun c hc => ?_)
 ·rw [show zlea (body Tryd.f34.body) = [zZba] by kernel_rfl] at hc
  simp only [List.mem_cons, List.not_mem_nil, or_false] at hc
  rcases hc with rfl
  ·exact zIga
 ·rw [show zmea zuaa (body Tryd.f34.body) = [] by kernel_rfl] at hc; cases hc
noncomputable def zRaa {R : Type} (a0 : (List (List UInt8)) × (Bool) × Unit) (K : (List (Int)) → ((List (List UInt8)) × (Bool) × Unit) → Option R) : Option R :=
 loopN (zwaa (fun w1 w2 =>
 cond w2.2.1
 (K w1 (w2.1, (true, w2.2.2)))
 (let v3 := ((List.length w1 : Nat) : Int)
 let v4 := decide (v3 > (8 : Int))
 K w1 (w2.1, (v4, w2.2.2))))) zyfa ⟨([] : List (Int)), a0⟩
noncomputable def zmca : CSpec := { ins := [(.ref (.pair (.sl 9 .str) (.pair .bool .unit)) .s .s)], outs := [((.sl 36 (.int .u64)), (.o .s))], fn := fun (d : ((List (List UInt8)) × (Bool) × Unit) × Unit) K _ => zRaa d.1 (fun r0 b0 => K ((r0, ()) : (List (Int)) × Unit) ((b0, ()) : ((List (List UInt8)) × (Bool) × Unit) × Unit)) }
theorem zKea : Holds Tryd.prog 34 zmca := zsaa (env := zuaa) (inl := inl0) (lp := zjba) (rs := [(2, none)]) (code := body Tryd.f34.body) ⟨mixed, envTyOk.ty, envTyOk.eq⟩ zpga zTaa Tryd.func34 zlga (by kernel_rfl) (by kernel_rfl) (by kernel_rfl) (by kernel_rfl) (by kernel_rfl) (by kernel_rfl) fun d R K Kp => by kernel_rfl
noncomputable def zlda : List (FuncId × List FuncId × CSpec) := [(59, [], zIda), (34, [], zmca), (32, [], zlba), (29, [], zUca)]
noncomputable def zDda : Env := { ty := envTy, eq := envEq, gam := (gamL zlda), n := Tryd.f31.ntmps, al := [0, 4, 7, 10, 12, 15, 16, 17, 18, 26, 27, 28, 30, 33] }
theorem zrga : EnvFn Tryd.prog zDda := fun f gs c h => zKba (l := zlda) ⟨zjha, zKea, zrca, zega, trivial⟩ f gs c h
noncomputable def zAba {R : Type} (a0 : (List (List UInt8)) × (Bool) × Unit) (K : ((Bool) × (Bool) × (List (Int)) × (Int) × (List (Int)) × Unit) → ((List (List UInt8)) × (Bool) × Unit) → Option R) : Option R :=
 zeaa a0 ([103, 114, 111, 119] : List UInt8) fun r1 b2 =>
 zeaa b2 ([116, 114, 97, 112] : List UInt8) fun r3 b4 =>
 zeaa b4 ([103, 105, 118, 101] : List UInt8) fun r5 b6 =>
 cond r5
 (zRaa b6 fun r7 b8 =>
 cond b8.2.1
 (zeaa (b8.1, (true, b8.2.2)) ([97, 116] : List UInt8) fun r9 b10 =>
 cond r9
 (zbaa b10 fun r11 b12 =>
 zzaa b12 fun r13 b14 =>
 K (r1, (r3, (r7, (r11, (r13, ()))))) b14)
 (K (r1, (r3, (r7, ((0 : Int), (([] : List (Int)), ()))))) b10))
 (let v15 := ((List.length r7 : Nat) : Int)
 let v16 := v15 == (0 : Int)
 zeaa (b8.1, (v16, b8.2.2)) ([97, 116] : List UInt8) fun r17 b18 =>
 cond r17
 (zbaa b18 fun r19 b20 =>
 zzaa b20 fun r21 b22 =>
 K (r1, (r3, (r7, (r19, (r21, ()))))) b22)
 (K (r1, (r3, (r7, ((0 : Int), (([] : List (Int)), ()))))) b18)))
 (zeaa b6 ([97, 116] : List UInt8) fun r23 b24 =>
 cond r23
 (zbaa b24 fun r25 b26 =>
 zzaa b26 fun r27 b28 =>
 K (r1, (r3, (([] : List (Int)), (r25, (r27, ()))))) b28)
 (K (r1, (r3, (([] : List (Int)), ((0 : Int), (([] : List (Int)), ()))))) b24))
noncomputable def zgea : CSpec := { ins := [(.ref (.pair (.sl 9 .str) (.pair .bool .unit)) .s .s)], outs := [((.pair .bool (.pair .bool Ty1)), (.p .s (.p .s (.p (.o .s) (.p .s (.p (.o .s) .s))))))], fn := fun (d : ((List (List UInt8)) × (Bool) × Unit) × Unit) K _ => zAba d.1 (fun r0 b0 => K ((r0, ()) : ((Bool) × (Bool) × (List (Int)) × (Int) × (List (Int)) × Unit) × Unit) ((b0, ()) : ((List (List UInt8)) × (Bool) × Unit) × Unit)) }
theorem zbja : Holds Tryd.prog 31 zgea := zsaa (env := zDda) (inl := inl0) (lp := lp0) (rs := [(2, some 41)]) (code := body Tryd.f31.body) ⟨mixed, envTyOk.ty, envTyOk.eq⟩ zrga zTaa Tryd.func31 (zraa (by kernel_rfl) (by kernel_rfl)) (by kernel_rfl) (by kernel_rfl) (by kernel_rfl) (by kernel_rfl) (by kernel_rfl) (by kernel_rfl) fun d R K Kp => by kernel_rfl
noncomputable def zjia : List (FuncId × List FuncId × CSpec) := [(62, [], zsea)]
noncomputable def zLba : Env := { ty := envTy, eq := envEq, gam := (gamL zjia), n := Tryd.f46.ntmps }
theorem zPla : EnvFn Tryd.prog zLba := fun f gs c h => zKba (l := zjia) ⟨zHha, trivial⟩ f gs c h
structure zOba where
 f0 : List UInt8
 f14 : Int
 f15 : Int
noncomputable def zQba {R : Type} (k_ret : Bool → Option R) (k_exit_0 : Option R) (rec : zOba → Option R) (x : zOba) : Option R :=
 let v1 := decide (x.f15 < x.f14)
 cond v1
 (cond (inB x.f15 (List.length x.f0))
 (let v2 := bt x.f0 x.f15
 zuca v2 fun r3 =>
 let v4 := !r3
 cond v4
 (let v5 := v2 != (95 : Int)
 cond v5
 (let v6 := decide (v2 < (97 : Int))
 cond v6
 (k_ret false)
 (let v7 := decide (v2 > (122 : Int))
 cond v7
 (k_ret false)
 (let v8 := IntKind.i64.wrap (x.f15 + (1 : Int))
 rec ⟨x.f0, x.f14, v8⟩)))
 (let v9 := IntKind.i64.wrap (x.f15 + (1 : Int))
 rec ⟨x.f0, x.f14, v9⟩))
 (let v10 := IntKind.i64.wrap (x.f15 + (1 : Int))
 rec ⟨x.f0, x.f14, v10⟩)) none)
 (k_exit_0)
noncomputable def zNna (x : zOba) : St := St.ofList [(0, (.v .str .s x.f0)), (14, (.v (.int .i64) .s x.f14)), (15, (.v (.int .i64) .s x.f15))]
def zrla : Ex → List (Nat × Bool) | .ret => [(2, false)] | .exit 0 => [] | _ => []
def zgia : List (Nat × Bool) := [(0, false), (14, false), (15, false)]
noncomputable def zTha : Pt zOba := .s 0 (sV .str .s) fun y0 => .s 14 (sV (.int .i64) .s) fun y14 => .s 15 (sV (.int .i64) .s) fun y15 => .e ⟨y0, y14, y15⟩
noncomputable def ztja (R : Type) (K : Ex → St → Option R) : (zOba → Option R) → zOba → Option R := zQba (fun e2 => K .ret (St.ofList [(2, (.v .bool .s e2))])) (K (.exit 0) (St.ofList []))
noncomputable def zFfa : Code := match zrfa 4 (body Tryd.f46.body) with | some c => c | none => .skip
noncomputable def zpea : Loops := fun z i R st K => match z, i with
 | false, 4 => lpE zgia zTha (lpL ztja K) st
 | _, _ => none
theorem zqka : LStep zLba zpea inl0 zFfa zgia zrla zNna ztja := fun R K rec x => by kernel_rfl
theorem zpma : zrha zLba zpea inl0 zFfa := zWba zqka (p := zTha) (i := 4) (fun _ _ _ => ⟨rfl, rfl⟩) (by kernel_rfl) (fun R st K => by kernel_rfl)
theorem zwla : zZaa zLba zpea inl0 (body Tryd.f46.body) := by
 refine zCaa (fun c hc => ?_) (fun c hc => ?_)
 ·rw [show zlea (body Tryd.f46.body) = [zFfa] by kernel_rfl] at hc
  simp only [List.mem_cons, List.not_mem_nil, or_false] at hc
  rcases hc with rfl
  ·exact zpma
 ·rw [show zmea zLba (body Tryd.f46.body) = [] by kernel_rfl] at hc; cases hc
noncomputable def zhfa {R : Type} (a0 : List UInt8) (K : Bool → Option R) : Option R :=
 let v1 := ((List.length a0 : Nat) : Int)
 let v2 := decide (v1 < (1 : Int))
 cond v2
 (K false)
 (let v3 := ((List.length a0 : Nat) : Int)
 let v4 := decide (v3 > (16 : Int))
 cond v4
 (K false)
 (let v5 := ((List.length a0 : Nat) : Int)
 loopN (zQba (fun w6 =>
 K w6) (K true)) zyfa ⟨a0, v5, (0 : Int)⟩))
noncomputable def zTja : CSpec := { ins := [(.val .str .s)], outs := [(.bool, .s)], fn := fun (d : (List UInt8) × Unit) K _ => zhfa d.1 (fun r0 => K ((r0, ()) : Bool × Unit) ((()) : Unit)) }
theorem zXoa : Holds Tryd.prog 46 zTja := zsaa (env := zLba) (inl := inl0) (lp := zpea) (rs := [(2, none)]) (code := body Tryd.f46.body) ⟨mixed, envTyOk.ty, envTyOk.eq⟩ zPla zTaa Tryd.func46 zwla (by kernel_rfl) (by kernel_rfl) (by kernel_rfl) (by kernel_rfl) (by kernel_rfl) (by kernel_rfl) fun d R K Kp => by kernel_rfl
noncomputable def zcea : List (FuncId × List FuncId × CSpec) := [(28, [], zyaa), (46, [], zTja)]
noncomputable def zOea : Env := { ty := envTy, eq := envEq, gam := (gamL zcea), n := Tryd.f33.ntmps, al := [0, 4] }
theorem zLha : EnvFn Tryd.prog zOea := fun f gs c h => zKba (l := zcea) ⟨zNaa, zXoa, trivial⟩ f gs c h
noncomputable def zgba {R : Type} (a0 : (List (List UInt8)) × (Bool) × Unit) (K : (List UInt8) → ((List (List UInt8)) × (Bool) × Unit) → Option R) : Option R :=
 zqaa a0 fun r1 b2 =>
 cond b2.2.1
 (K r1 (b2.1, (true, b2.2.2)))
 (zhfa r1 fun r3 =>
 let v4 := !r3
 K r1 (b2.1, (v4, b2.2.2)))
noncomputable def zcfa : CSpec := { ins := [(.ref (.pair (.sl 9 .str) (.pair .bool .unit)) .s .s)], outs := [(.str, .s)], fn := fun (d : ((List (List UInt8)) × (Bool) × Unit) × Unit) K _ => zgba d.1 (fun r0 b0 => K ((r0, ()) : (List UInt8) × Unit) ((b0, ()) : ((List (List UInt8)) × (Bool) × Unit) × Unit)) }
theorem zkka : Holds Tryd.prog 33 zcfa := zsaa (env := zOea) (inl := inl0) (lp := lp0) (rs := [(2, none)]) (code := body Tryd.f33.body) ⟨mixed, envTyOk.ty, envTyOk.eq⟩ zLha zTaa Tryd.func33 (zraa (by kernel_rfl) (by kernel_rfl)) (by kernel_rfl) (by kernel_rfl) (by kernel_rfl) (by kernel_rfl) (by kernel_rfl) (by kernel_rfl) fun d R K Kp => by kernel_rfl
noncomputable def zQja : List (FuncId × List FuncId × CSpec) := [(28, [], zyaa), (29, [], zUca), (30, [], zPea), (31, [], zgea), (32, [], zlba), (33, [], zcfa), (34, [], zmca), (35, [], zWaa)]
noncomputable def zCpa : Nat → Bool
 | 19 => true
 | _ => false
noncomputable def zzpa : Nat → Option (List Nat)
 | 0 => some [0]
 | 1 => some [0, 2]
 | 2 => some [2, 4]
 | 3 => some [2, 4, 5]
 | 4 => some [2]
 | 5 => some [2, 4, 5, 10]
 | 6 => some [2, 4, 5]
 | 7 => some [2, 4, 5, 10]
 | 8 => some [2, 4, 5]
 | 9 => some [2, 4, 5, 10]
 | 10 => some [2, 4, 5]
 | 11 => some [2, 4, 5, 10]
 | 12 => some [2, 4, 5]
 | 13 => some [2, 4, 5, 10]
 | 14 => some [2, 4, 5]
 | 15 => some [2, 4, 5, 10]
 | 16 => some [2, 4, 5]
 | 17 => some [2, 4, 5, 10]
 | 18 => some [2, 4, 5]
 | 19 => some [2, 4, 5]
 | _ => none
noncomputable def zyca : Env := { ty := envTy, eq := envEq, gam := (gamL zQja), n := Tryd.f16.ntmps, js := zCpa, lv := zzpa, al := [55, 56] }
theorem zEna : EnvFn Tryd.prog zyca := fun f gs c h => zKba (l := zQja) ⟨zNaa, zega, zFja, zbja, zrca, zkka, zKea, zYba, trivial⟩ f gs c h
structure zvea where
 f2 : (Int) × It3
 f4 : (List (List UInt8)) × (Bool) × Unit
 f5 : (Int) × It3
noncomputable def zxea {R : Type} (k_normal : ((Int) × It3) → ((List (List UInt8)) × (Bool) × Unit) → ((Int) × It3) → Option R) (k_ret : ((Int) × It3) → Bool → Option R) (x : zvea) : Option R :=
 zqaa x.f4 fun r1 b2 =>
 let v3 := r1 == ([98, 121, 116, 101, 115] : List UInt8)
 cond v3
 (zzaa b2 fun r4 b5 =>
 k_normal x.f2 b5 ((1 : Int), (r4, (((0 : Int), (false, ((0 : Int), ((0 : Int), (false, ((0 : Int), ())))))), ((false, (false, (([] : List (Int)), ((0 : Int), (([] : List (Int)), ()))))), (([] : List UInt8), (([] : List (Int)), ((0 : Int), ((0 : Int), ((0 : Int), ()))))))))))
 (let v6 := r1 == ([103, 105, 118, 101] : List UInt8)
 cond v6
 (zHba b2 fun r7 b8 =>
 k_normal x.f2 b8 ((2 : Int), (([] : List (Int)), (r7, ((false, (false, (([] : List (Int)), ((0 : Int), (([] : List (Int)), ()))))), (([] : List UInt8), (([] : List (Int)), ((0 : Int), ((0 : Int), ((0 : Int), ()))))))))))
 (let v9 := r1 == ([99, 104, 111, 105, 99, 101] : List UInt8)
 cond v9
 (zAba b2 fun r10 b11 =>
 k_normal x.f2 b11 ((3 : Int), (([] : List (Int)), (((0 : Int), (false, ((0 : Int), ((0 : Int), (false, ((0 : Int), ())))))), (r10, (([] : List UInt8), (([] : List (Int)), ((0 : Int), ((0 : Int), ((0 : Int), ()))))))))))
 (let v12 := r1 == ([111, 112, 101, 110] : List UInt8)
 cond v12
 (zbaa b2 fun r13 b14 =>
 k_normal x.f2 b14 ((4 : Int), (([] : List (Int)), (((0 : Int), (false, ((0 : Int), ((0 : Int), (false, ((0 : Int), ())))))), ((false, (false, (([] : List (Int)), ((0 : Int), (([] : List (Int)), ()))))), (([] : List UInt8), (([] : List (Int)), (r13, ((0 : Int), ((0 : Int), ()))))))))))
 (let v15 := r1 == ([99, 97, 108, 108] : List UInt8)
 cond v15
 (zgba b2 fun r16 b17 =>
 zbaa b17 fun r18 b19 =>
 zRaa b19 fun r20 b21 =>
 k_normal x.f2 b21 ((5 : Int), (([] : List (Int)), (((0 : Int), (false, ((0 : Int), ((0 : Int), (false, ((0 : Int), ())))))), ((false, (false, (([] : List (Int)), ((0 : Int), (([] : List (Int)), ()))))), (r16, (r20, (r18, ((0 : Int), ((0 : Int), ()))))))))))
 (let v22 := r1 == ([114, 101, 97, 100] : List UInt8)
 cond v22
 (zgba b2 fun r23 b24 =>
 k_normal x.f2 b24 ((6 : Int), (([] : List (Int)), (((0 : Int), (false, ((0 : Int), ((0 : Int), (false, ((0 : Int), ())))))), ((false, (false, (([] : List (Int)), ((0 : Int), (([] : List (Int)), ()))))), (r23, (([] : List (Int)), ((0 : Int), ((0 : Int), ((0 : Int), ()))))))))))
 (let v25 := r1 == ([112, 101, 101, 107] : List UInt8)
 cond v25
 (zbaa b2 fun r26 b27 =>
 zbaa b27 fun r28 b29 =>
 k_normal x.f2 b29 ((7 : Int), (([] : List (Int)), (((0 : Int), (false, ((0 : Int), ((0 : Int), (false, ((0 : Int), ())))))), ((false, (false, (([] : List (Int)), ((0 : Int), (([] : List (Int)), ()))))), (([] : List UInt8), (([] : List (Int)), ((0 : Int), (r26, (r28, ()))))))))))
 (k_ret ((0 : Int), (([] : List (Int)), (((0 : Int), (false, ((0 : Int), ((0 : Int), (false, ((0 : Int), ())))))), ((false, (false, (([] : List (Int)), ((0 : Int), (([] : List (Int)), ()))))), (([] : List UInt8), (([] : List (Int)), ((0 : Int), ((0 : Int), ((0 : Int), ()))))))))) false)))))))
noncomputable def znoa (x : zvea) : St := St.ofList [(2, (.v (.ptr 43 (.pair (.int .i64) (.pair (.sl 5 (.int .u8)) Ty5))) (.o (.p .s (.p (.o .s) (.p .s (.p (.p .s (.p .s (.p (.o .s) (.p .s (.p (.o .s) .s))))) (.p .s (.p (.o .s) .s))))))) (some x.f2))), (4, (.v (.ptr 71 (.pair (.sl 9 .str) (.pair .bool .unit))) (.o .s) (some x.f4))), (5, (.v (.ptr 43 (.pair (.int .i64) (.pair (.sl 5 (.int .u8)) Ty5))) (.o (.p .s (.p (.o .s) (.p .s (.p (.p .s (.p .s (.p (.o .s) (.p .s (.p (.o .s) .s))))) (.p .s (.p (.o .s) .s))))))) (some x.f5)))]
def zyma : Ex → List (Nat × Bool) | .normal => [(2, false), (4, false), (5, false)] | .ret => [(2, false), (3, false)] | _ => []
def zYha : List (Nat × Bool) := [(2, false), (4, false), (5, false)]
noncomputable def zWha : Pt zvea := .s 2 (sP 43 (.pair (.int .i64) (.pair (.sl 5 (.int .u8)) Ty5)) (.o (.p .s (.p (.o .s) (.p .s (.p (.p .s (.p .s (.p (.o .s) (.p .s (.p (.o .s) .s))))) (.p .s (.p (.o .s) .s)))))))) fun y2 => .s 4 (sP 71 (.pair (.sl 9 .str) (.pair .bool .unit)) (.o .s)) fun y4 => .s 5 (sP 43 (.pair (.int .i64) (.pair (.sl 5 (.int .u8)) Ty5)) (.o (.p .s (.p (.o .s) (.p .s (.p (.p .s (.p .s (.p (.o .s) (.p .s (.p (.o .s) .s))))) (.p .s (.p (.o .s) .s)))))))) fun y5 => .e ⟨y2, y4, y5⟩
noncomputable def zUia (R : Type) (K : Ex → St → Option R) : zvea → Option R := zxea (fun e2 e4 e5 => K .normal (St.ofList [(2, (.v (.ptr 43 (.pair (.int .i64) (.pair (.sl 5 (.int .u8)) Ty5))) (.o (.p .s (.p (.o .s) (.p .s (.p (.p .s (.p .s (.p (.o .s) (.p .s (.p (.o .s) .s))))) (.p .s (.p (.o .s) .s))))))) (some e2))), (4, (.v (.ptr 71 (.pair (.sl 9 .str) (.pair .bool .unit))) (.o .s) (some e4))), (5, (.v (.ptr 43 (.pair (.int .i64) (.pair (.sl 5 (.int .u8)) Ty5))) (.o (.p .s (.p (.o .s) (.p .s (.p (.p .s (.p .s (.p (.o .s) (.p .s (.p (.o .s) .s))))) (.p .s (.p (.o .s) .s))))))) (some e5)))])) (fun e2 e3 => K .ret (St.ofList [(2, (.v (.ptr 43 (.pair (.int .i64) (.pair (.sl 5 (.int .u8)) Ty5))) (.o (.p .s (.p (.o .s) (.p .s (.p (.p .s (.p .s (.p (.o .s) (.p .s (.p (.o .s) .s))))) (.p .s (.p (.o .s) .s))))))) (some e2))), (3, (.v .bool .s e3))]))
noncomputable def znga : Code := match joinC 19 (body Tryd.f16.body) with | some c => c | none => .skip
noncomputable def zTfa : Loops := fun z i R st K => match z, i with
 | true, 19 => lpE zYha zWha (zUia R K) st
 | _, _ => none
theorem zGka : JStep zyca zTfa inl0 znga zyma znoa zUia := fun R K x => by kernel_rfl
theorem zAma : zQfa zyca zTfa inl0 znga 19 := zkba (hd := zYha) zGka (p := zWha) (fun _ _ _ => ⟨rfl, rfl⟩) (fun R st K => by kernel_rfl)
theorem zxna : zZaa zyca zTfa inl0 (body Tryd.f16.body) := by
 refine zCaa (fun c hc => ?_) (fun c hc => ?_)
 ·rw [show zlea (body Tryd.f16.body) = [] by kernel_rfl] at hc; cases hc
 ·rw [show zmea zyca (body Tryd.f16.body) = [(znga, 19)] by kernel_rfl] at hc
  simp only [List.mem_cons, List.not_mem_nil, or_false] at hc
  rcases hc with rfl
  ·exact zAma
noncomputable def ziea {R : Type} (a0 : List (List UInt8)) (K : ((Int) × It3) → Bool → Option R) : Option R :=
 zxea (fun w1 w2 w3 =>
 both
 (let v4 := !w2.2.1
 cond v4
 (zhaa w2 fun r5 b6 =>
 let v7 := !r5
 K w3 v7)
 (K w3 false))
 (let v8 := !w2.2.1
 cond v8
 (both
 (zhaa w2 fun r9 b10 =>
 let v11 := !r9
 K w3 v11)
 (zhaa w2 fun r12 b13 =>
 let v14 := !r12
 K w3 v14))
 (both
 (K w3 false)
 (K w3 false)))) (fun w15 w16 =>
 K w15 w16) ⟨((0 : Int), (([] : List (Int)), (((0 : Int), (false, ((0 : Int), ((0 : Int), (false, ((0 : Int), ())))))), ((false, (false, (([] : List (Int)), ((0 : Int), (([] : List (Int)), ()))))), (([] : List UInt8), (([] : List (Int)), ((0 : Int), ((0 : Int), ((0 : Int), ()))))))))), (a0, (false, ())), ((0 : Int), (([] : List (Int)), (((0 : Int), (false, ((0 : Int), ((0 : Int), (false, ((0 : Int), ())))))), ((false, (false, (([] : List (Int)), ((0 : Int), (([] : List (Int)), ()))))), (([] : List UInt8), (([] : List (Int)), ((0 : Int), ((0 : Int), ((0 : Int), ())))))))))⟩
noncomputable def zbma : CSpec := { ins := [(.val (.sl 9 .str) .s)], outs := [((.pair (.int .i64) (.pair (.sl 5 (.int .u8)) Ty5)), (.p .s (.p (.o .s) (.p .s (.p (.p .s (.p .s (.p (.o .s) (.p .s (.p (.o .s) .s))))) (.p .s (.p (.o .s) .s))))))), (.bool, .s)], fn := fun (d : (List (List UInt8)) × Unit) K _ => ziea d.1 (fun r0 r1 => K ((r0, r1, ()) : ((Int) × It3) × Bool × Unit) ((()) : Unit)) }
theorem zyqa : Holds Tryd.prog 16 zbma := zsaa (env := zyca) (inl := inl0) (lp := zTfa) (rs := [(2, some 43), (3, none)]) (code := body Tryd.f16.body) ⟨mixed, envTyOk.ty, envTyOk.eq⟩ zEna zTaa Tryd.func16 zxna (by kernel_rfl) (by kernel_rfl) (by kernel_rfl) (by kernel_rfl) (by kernel_rfl) (by kernel_rfl) fun d R K Kp => by kernel_rfl
noncomputable abbrev zYda {R : Type} (a0 : List UInt8) (K : List (List UInt8) → Option R) : Option R := zBka a0 K
noncomputable abbrev zGda : CSpec := zQpa
theorem zwia : Holds Tryd.prog 14 zGda := zqua
noncomputable def zkia : List (FuncId × List FuncId × CSpec) := [(13, [], znja), (14, [15], zGda), (16, [], zbma)]
noncomputable def zhoa : Nat → Bool
 | 9 => true
 | _ => false
noncomputable def zMba : Env := { ty := envTy, eq := envEq, gam := (gamL zkia), n := Tryd.f8.ntmps, fs := zhoa }
theorem zQla : EnvFn Tryd.prog zMba := fun f gs c h => zKba (l := zkia) ⟨zfoa, zwia, zyqa, trivial⟩ f gs c h
structure zGaa where
 f5 : List ((Int) × It3)
 f12 : List (List UInt8)
 f13 : Int
 f14 : Int
noncomputable def zWda {R : Type} (k_ret : (List ((Int) × It3)) → Int → Int → Option R) (k_exit_0 : (List ((Int) × It3)) → Option R) (rec : zGaa → Option R) (x : zGaa) : Option R :=
 let v1 := decide (x.f14 < x.f13)
 cond v1
 (cond (inB x.f14 (List.length x.f12))
 (let v2 := (List.getD x.f12 x.f14.toNat ([] : List UInt8))
 let v3 := decide (x.f14 ≥ (256 : Int))
 cond v3
 (let v4 := IntKind.i64.wrap (x.f14 + (1 : Int))
 k_ret ([] : List ((Int) × It3)) (4 : Int) v4)
 (let v5 := ((List.length v2 : Nat) : Int)
 let v6 := decide (v5 > (512 : Int))
 cond v6
 (let v7 := IntKind.i64.wrap (x.f14 + (1 : Int))
 k_ret ([] : List ((Int) × It3)) (4 : Int) v7)
 (zYda v2 fun r8 =>
 let v9 := ((List.length r8 : Nat) : Int)
 let v10 := v9 == (0 : Int)
 cond v10
 (let v11 := IntKind.i64.wrap (x.f14 + (1 : Int))
 rec ⟨x.f5, x.f12, x.f13, v11⟩)
 (cond (inB (0 : Int) (List.length r8))
 (let v12 := (List.getD r8 (0 : Int).toNat ([] : List UInt8))
 cond (inB (0 : Int) (List.length v12))
 (let v13 := bt v12 (0 : Int)
 let v14 := v13 == (35 : Int)
 cond v14
 (let v15 := IntKind.i64.wrap (x.f14 + (1 : Int))
 rec ⟨x.f5, x.f12, x.f13, v15⟩)
 (ziea r8 fun r16 r17 =>
 let v18 := !r17
 cond v18
 (let v19 := IntKind.i64.wrap (x.f14 + (1 : Int))
 k_ret ([] : List ((Int) × It3)) (2 : Int) v19)
 (let v20 := List.set (List.replicate 1 ((0 : Int), (([] : List (Int)), (((0 : Int), (false, ((0 : Int), ((0 : Int), (false, ((0 : Int), ())))))), ((false, (false, (([] : List (Int)), ((0 : Int), (([] : List (Int)), ()))))), (([] : List UInt8), (([] : List (Int)), ((0 : Int), ((0 : Int), ((0 : Int), ())))))))))) 0 r16
 cond (decide (List.length x.f5 + List.length v20 ≤ most))
 (let v21 := x.f5 ++ v20
 let v22 := IntKind.i64.wrap (x.f14 + (1 : Int))
 rec ⟨v21, x.f12, x.f13, v22⟩) none))) none) none)))) none)
 (k_exit_0 x.f5)
noncomputable def zOna (x : zGaa) : St := St.ofList [(5, (.v (.sl 43 (.pair (.int .i64) (.pair (.sl 5 (.int .u8)) Ty5))) (.o .s) x.f5)), (12, (.v (.sl 9 .str) (.o .s) x.f12)), (13, (.v (.int .i64) .s x.f13)), (14, (.v (.int .i64) .s x.f14))]
def zsla : Ex → List (Nat × Bool) | .ret => [(2, false), (3, false), (4, false)] | .exit 0 => [(5, false)] | _ => []
def zhia : List (Nat × Bool) := [(5, false), (12, false), (13, false), (14, false)]
noncomputable def zUha : Pt zGaa := .s 5 (sV (.sl 43 (.pair (.int .i64) (.pair (.sl 5 (.int .u8)) Ty5))) (.o .s)) fun y5 => .s 12 (sV (.sl 9 .str) (.o .s)) fun y12 => .s 13 (sV (.int .i64) .s) fun y13 => .s 14 (sV (.int .i64) .s) fun y14 => .e ⟨y5, y12, y13, y14⟩
noncomputable def zuja (R : Type) (K : Ex → St → Option R) : (zGaa → Option R) → zGaa → Option R := zWda (fun e2 e3 e4 => K .ret (St.ofList [(2, (.v (.sl 43 (.pair (.int .i64) (.pair (.sl 5 (.int .u8)) Ty5))) (.o .s) e2)), (3, (.v (.int .i64) .s e3)), (4, (.v (.int .i64) .s e4))])) (fun e5 => K (.exit 0) (St.ofList [(5, (.v (.sl 43 (.pair (.int .i64) (.pair (.sl 5 (.int .u8)) Ty5))) (.o .s) e5))]))
noncomputable def zGfa : Code := match zrfa 3 (body Tryd.f8.body) with | some c => c | none => .skip
noncomputable def zqea : Loops := fun z i R st K => match z, i with
 | false, 3 => lpE zhia zUha (lpL zuja K) st
 | _, _ => none
theorem zrka : LStep zMba zqea inl0 zGfa zhia zsla zOna zuja := fun R K rec x => by kernel_rfl
theorem zqma : zrha zMba zqea inl0 zGfa := zWba zrka (p := zUha) (i := 3) (fun _ _ _ _ => ⟨rfl, rfl⟩) (by kernel_rfl) (fun R st K => by kernel_rfl)
theorem zxla : zZaa zMba zqea inl0 (body Tryd.f8.body) := by
 refine zCaa (fun c hc => ?_) (fun c hc => ?_)
 ·rw [show zlea (body Tryd.f8.body) = [zGfa] by kernel_rfl] at hc
  simp only [List.mem_cons, List.not_mem_nil, or_false] at hc
  rcases hc with rfl
  ·exact zqma
 ·rw [show zmea zMba (body Tryd.f8.body) = [] by kernel_rfl] at hc; cases hc
noncomputable def zXaa {R : Type} (a0 : List UInt8) (K : (List ((Int) × It3)) → Int → Int → Option R) : Option R :=
 zaoa a0 ([10] : List UInt8) fun r1 =>
 let v2 := ((List.length r1 : Nat) : Int)
 loopN (zWda (fun w3 w4 w5 =>
 K w3 w4 w5) (fun w6 =>
 K w6 (0 : Int) (0 : Int))) zyfa ⟨([] : List ((Int) × It3)), r1, v2, (0 : Int)⟩
noncomputable def ztea : CSpec := { ins := [(.val .str .s)], outs := [((.sl 43 (.pair (.int .i64) (.pair (.sl 5 (.int .u8)) Ty5))), (.o .s)), ((.int .i64), .s), ((.int .i64), .s)], fn := fun (d : (List UInt8) × Unit) K _ => zXaa d.1 (fun r0 r1 r2 => K ((r0, r1, r2, ()) : (List ((Int) × It3)) × Int × Int × Unit) ((()) : Unit)) }
theorem zIha : Holds Tryd.prog 8 ztea := zsaa (env := zMba) (inl := inl0) (lp := zqea) (rs := [(2, none), (3, none), (4, none)]) (code := body Tryd.f8.body) ⟨mixed, envTyOk.ty, envTyOk.eq⟩ zQla zTaa Tryd.func8 zxla (by kernel_rfl) (by kernel_rfl) (by kernel_rfl) (by kernel_rfl) (by kernel_rfl) (by kernel_rfl) fun d R K Kp => by kernel_rfl
noncomputable def zgja : List (FuncId × List FuncId × CSpec) := [(8, [], ztea)]
noncomputable def zSja : Env := { ty := envTy, eq := envEq, gam := (gamL zgja), n := Tryd.f7.ntmps }
theorem zFma : EnvFn Tryd.prog zSja := fun f gs c h => zKba (l := zgja) ⟨zIha, trivial⟩ f gs c h
noncomputable def zFea {R : Type}  (K : Bool → Option R) : Option R :=
 zXaa ([99, 97, 108, 108, 32, 102, 32, 49, 48, 48, 32, 53, 32, 55, 10] : List UInt8) fun r1 r2 r3 =>
 let v4 := r2 == (0 : Int)
 cond v4
 (let v5 := ((List.length r1 : Nat) : Int)
 let v6 := v5 == (1 : Int)
 cond v6
 (cond (inB (0 : Int) (List.length r1))
 (let v7 := (((((List.getD r1 (0 : Int).toNat ((0 : Int), (([] : List (Int)), (((0 : Int), (false, ((0 : Int), ((0 : Int), (false, ((0 : Int), ())))))), ((false, (false, (([] : List (Int)), ((0 : Int), (([] : List (Int)), ()))))), (([] : List UInt8), (([] : List (Int)), ((0 : Int), ((0 : Int), ((0 : Int), ())))))))))).2).2).2).2).1
 let v8 := v7 == ([102] : List UInt8)
 cond v8
 (cond (inB (0 : Int) (List.length r1))
 (let v9 := (((((((List.getD r1 (0 : Int).toNat ((0 : Int), (([] : List (Int)), (((0 : Int), (false, ((0 : Int), ((0 : Int), (false, ((0 : Int), ())))))), ((false, (false, (([] : List (Int)), ((0 : Int), (([] : List (Int)), ()))))), (([] : List UInt8), (([] : List (Int)), ((0 : Int), ((0 : Int), ((0 : Int), ())))))))))).2).2).2).2).2).2).1
 let v10 := v9 == (100 : Int)
 cond v10
 (cond (inB (0 : Int) (List.length r1))
 (let v11 := ((((((List.getD r1 (0 : Int).toNat ((0 : Int), (([] : List (Int)), (((0 : Int), (false, ((0 : Int), ((0 : Int), (false, ((0 : Int), ())))))), ((false, (false, (([] : List (Int)), ((0 : Int), (([] : List (Int)), ()))))), (([] : List UInt8), (([] : List (Int)), ((0 : Int), ((0 : Int), ((0 : Int), ())))))))))).2).2).2).2).2).1
 let v12 := ((List.length v11 : Nat) : Int)
 let v13 := v12 == (2 : Int)
 cond v13
 (cond (inB (0 : Int) (List.length r1))
 (let v14 := ((((((List.getD r1 (0 : Int).toNat ((0 : Int), (([] : List (Int)), (((0 : Int), (false, ((0 : Int), ((0 : Int), (false, ((0 : Int), ())))))), ((false, (false, (([] : List (Int)), ((0 : Int), (([] : List (Int)), ()))))), (([] : List UInt8), (([] : List (Int)), ((0 : Int), ((0 : Int), ((0 : Int), ())))))))))).2).2).2).2).2).1
 cond (inB (1 : Int) (List.length v14))
 (let v15 := List.getD v14 (1 : Int).toNat (0 : Int)
 let v16 := v15 == (7 : Int)
 K v16) none) none)
 (K false)) none)
 (K false)) none)
 (K false)) none)
 (K false))
 (K false)
noncomputable def zPha : CSpec := { ins := [], outs := [(.bool, .s)], fn := fun (d : Unit) K _ => zFea  (fun r0 => K ((r0, ()) : Bool × Unit) ((()) : Unit)) }
theorem zama : Holds Tryd.prog 7 zPha := zsaa (env := zSja) (inl := inl0) (lp := lp0) (rs := [(0, none)]) (code := body Tryd.f7.body) ⟨mixed, envTyOk.ty, envTyOk.eq⟩ zFma zTaa Tryd.func7 (zraa (by kernel_rfl) (by kernel_rfl)) (by kernel_rfl) (by kernel_rfl) (by kernel_rfl) (by kernel_rfl) (by kernel_rfl) (by kernel_rfl) fun d R K Kp => by kernel_rfl
noncomputable def zKca : Env := { ty := envTy, eq := envEq, gam := noG, n := Tryd.f17.ntmps }
structure zdca where
 f0 : List UInt8
 f3 : List (List UInt8)
 f4 : List UInt8
 f5 : Int
noncomputable def zEaa {R : Type} (k_exit_0 : (List (List UInt8)) → Option R) (rec : zdca → Option R) (x : zdca) : Option R :=
 let v1 := ((List.length x.f0 : Nat) : Int)
 let v2 := decide (x.f5 ≤ v1)
 cond v2
 (let v3 := ((List.length x.f0 : Nat) : Int)
 let v4 := decide (x.f5 < v3)
 cond v4
 (cond (inB x.f5 (List.length x.f0))
 (let v5 := bt x.f0 x.f5
 let v6 := v5 != (32 : Int)
 cond v6
 (let v7 := IntKind.i64.wrap (x.f5 + (1 : Int))
 cond (inR x.f5 v7 (List.length x.f0))
 (let v8 := rng x.f0 x.f5 v7
 cond (decide (x.f4.length + v8.length ≤ most))
 (let v9 := x.f4 ++ v8
 let v10 := IntKind.i64.wrap (x.f5 + (1 : Int))
 rec ⟨x.f0, x.f3, v9, v10⟩) none) none)
 (let v11 := !(x.f4 == ([] : List UInt8))
 cond v11
 (let v12 := List.set (List.replicate 1 ([] : List UInt8)) 0 x.f4
 cond (decide (List.length x.f3 + List.length v12 ≤ most))
 (let v13 := x.f3 ++ v12
 let v14 := IntKind.i64.wrap (x.f5 + (1 : Int))
 rec ⟨x.f0, v13, ([] : List UInt8), v14⟩) none)
 (let v15 := IntKind.i64.wrap (x.f5 + (1 : Int))
 rec ⟨x.f0, x.f3, ([] : List UInt8), v15⟩))) none)
 (let v16 := !(x.f4 == ([] : List UInt8))
 cond v16
 (let v17 := List.set (List.replicate 1 ([] : List UInt8)) 0 x.f4
 cond (decide (List.length x.f3 + List.length v17 ≤ most))
 (let v18 := x.f3 ++ v17
 let v19 := IntKind.i64.wrap (x.f5 + (1 : Int))
 rec ⟨x.f0, v18, ([] : List UInt8), v19⟩) none)
 (let v20 := IntKind.i64.wrap (x.f5 + (1 : Int))
 rec ⟨x.f0, x.f3, ([] : List UInt8), v20⟩)))
 (k_exit_0 x.f3)
noncomputable def zioa (x : zdca) : St := St.ofList [(0, (.v .str .s x.f0)), (3, (.v (.sl 9 .str) (.o .s) x.f3)), (4, (.v .str .s x.f4)), (5, (.v (.int .i64) .s x.f5))]
def zkma : Ex → List (Nat × Bool) | .exit 0 => [(3, false)] | _ => []
def zWia : List (Nat × Bool) := [(0, false), (3, false), (4, false), (5, false)]
noncomputable def zJia : Pt zdca := .s 0 (sV .str .s) fun y0 => .s 3 (sV (.sl 9 .str) (.o .s)) fun y3 => .s 4 (sV .str .s) fun y4 => .s 5 (sV (.int .i64) .s) fun y5 => .e ⟨y0, y3, y4, y5⟩
noncomputable def zVja (R : Type) (K : Ex → St → Option R) : (zdca → Option R) → zdca → Option R := zEaa (fun e3 => K (.exit 0) (St.ofList [(3, (.v (.sl 9 .str) (.o .s) e3))]))
noncomputable def ztga : Code := match zrfa 4 (body Tryd.f17.body) with | some c => c | none => .skip
noncomputable def zjfa : Loops := fun z i R st K => match z, i with
 | false, 4 => lpE zWia zJia (lpL zVja K) st
 | _, _ => none
theorem zila : LStep zKca zjfa inl0 ztga zWia zkma zioa zVja := fun R K rec x => by kernel_rfl
theorem zqna : zrha zKca zjfa inl0 ztga := zWba zila (p := zJia) (i := 4) (fun _ _ _ _ => ⟨rfl, rfl⟩) (by kernel_rfl) (fun R st K => by kernel_rfl)
theorem zsma : zZaa zKca zjfa inl0 (body Tryd.f17.body) := by
 refine zCaa (fun c hc => ?_) (fun c hc => ?_)
 ·rw [show zlea (body Tryd.f17.body) = [ztga] by kernel_rfl] at hc
  simp only [List.mem_cons, List.not_mem_nil, or_false] at hc
  rcases hc with rfl
  ·exact zqna
 ·rw [show zmea zKca (body Tryd.f17.body) = [] by kernel_rfl] at hc; cases hc
noncomputable def zYca {R : Type} (a0 : List UInt8) (K : (List (List UInt8)) → Option R) : Option R :=
 loopN (zEaa (fun w1 =>
 K w1)) zyfa ⟨a0, ([] : List (List UInt8)), ([] : List UInt8), (0 : Int)⟩
noncomputable def zVka : CSpec := { ins := [(.val .str .s)], outs := [((.sl 9 .str), (.o .s))], fn := fun (d : (List UInt8) × Unit) K _ => zYca d.1 (fun r0 => K ((r0, ()) : (List (List UInt8)) × Unit) ((()) : Unit)) }
theorem zEpa : Holds Tryd.prog 17 zVka := zsaa (env := zKca) (inl := inl0) (lp := zjfa) (rs := [(2, none)]) (code := body Tryd.f17.body) ⟨mixed, envTyOk.ty, envTyOk.eq⟩ (fun _ _ _ h => by cases h) zTaa Tryd.func17 zsma (by kernel_rfl) (by kernel_rfl) (by kernel_rfl) (by kernel_rfl) (by kernel_rfl) (by kernel_rfl) fun d R K Kp => by kernel_rfl
noncomputable def zbpa : Env := { ty := envTy, eq := envEq, gam := noG, n := Tryd.f63.ntmps }
noncomputable def zjea {R : Type} (a0 : Int) (K : Int → Bool → Option R) : Option R :=
 let v1 := decide (a0 ≥ (48 : Int))
 cond v1
 (let v2 := decide (a0 ≤ (57 : Int))
 cond v2
 (let v3 := IntKind.u8.wrap (a0 - (48 : Int))
 K v3 true)
 (let v4 := IntKind.u8.wrap (a0 - (97 : Int))
 let v5 := IntKind.u8.wrap (v4 + (10 : Int))
 let v6 := decide (a0 ≥ (97 : Int))
 cond v6
 (let v7 := decide (a0 ≤ (102 : Int))
 K v5 v7)
 (K v5 false)))
 (let v8 := IntKind.u8.wrap (a0 - (97 : Int))
 let v9 := IntKind.u8.wrap (v8 + (10 : Int))
 let v10 := decide (a0 ≥ (97 : Int))
 cond v10
 (let v11 := decide (a0 ≤ (102 : Int))
 K v9 v11)
 (K v9 false))
noncomputable def zcma : CSpec := { ins := [(.val (.int .u8) .s)], outs := [((.int .u8), .s), (.bool, .s)], fn := fun (d : Int × Unit) K _ => zjea d.1 (fun r0 r1 => K ((r0, r1, ()) : Int × Bool × Unit) ((()) : Unit)) }
theorem zzqa : Holds Tryd.prog 63 zcma := zsaa (env := zbpa) (inl := inl0) (lp := lp0) (rs := [(2, none), (3, none)]) (code := body Tryd.f63.body) ⟨mixed, envTyOk.ty, envTyOk.eq⟩ (fun _ _ _ h => by cases h) zTaa Tryd.func63 (zraa (by kernel_rfl) (by kernel_rfl)) (by kernel_rfl) (by kernel_rfl) (by kernel_rfl) (by kernel_rfl) (by kernel_rfl) (by kernel_rfl) fun d R K Kp => by kernel_rfl
noncomputable def zdja : List (FuncId × List FuncId × CSpec) := [(63, [], zcma)]
noncomputable def zbca : Env := { ty := envTy, eq := envEq, gam := (gamL zdja), n := Tryd.f36.ntmps }
theorem zCma : EnvFn Tryd.prog zbca := fun f gs c h => zKba (l := zdja) ⟨zzqa, trivial⟩ f gs c h
structure zfca where
 f0 : List UInt8
 f4 : List (Int)
 f5 : Int
noncomputable def zcba {R : Type} (k_ret : (List (Int)) → Bool → Option R) (k_exit_0 : (List UInt8) → (List (Int)) → Option R) (rec : zfca → Option R) (x : zfca) : Option R :=
 let v1 := IntKind.i64.wrap (x.f5 + (1 : Int))
 let v2 := ((List.length x.f0 : Nat) : Int)
 let v3 := decide (v1 < v2)
 cond v3
 (cond (inB x.f5 (List.length x.f0))
 (let v4 := bt x.f0 x.f5
 zjea v4 fun r5 r6 =>
 let v7 := IntKind.i64.wrap (x.f5 + (1 : Int))
 cond (inB v7 (List.length x.f0))
 (let v8 := bt x.f0 v7
 zjea v8 fun r9 r10 =>
 let v11 := !r6
 cond v11
 (k_ret ([] : List (Int)) false)
 (let v12 := !r10
 cond v12
 (k_ret ([] : List (Int)) false)
 (let v13 := IntKind.u8.wrap ((16 : Int) * r5)
 let v14 := IntKind.u8.wrap (v13 + r9)
 let v15 := List.set (List.replicate 1 (0 : Int)) 0 v14
 cond (decide (List.length x.f4 + List.length v15 ≤ most))
 (let v16 := x.f4 ++ v15
 let v17 := IntKind.i64.wrap (x.f5 + (2 : Int))
 rec ⟨x.f0, v16, v17⟩) none))) none) none)
 (k_exit_0 x.f0 x.f4)
noncomputable def zkoa (x : zfca) : St := St.ofList [(0, (.v .str .s x.f0)), (4, (.v (.sl 5 (.int .u8)) (.o .s) x.f4)), (5, (.v (.int .i64) .s x.f5))]
def zmma : Ex → List (Nat × Bool) | .ret => [(2, false), (3, false)] | .exit 0 => [(0, false), (4, false)] | _ => []
def zYia : List (Nat × Bool) := [(0, false), (4, false), (5, false)]
noncomputable def zLia : Pt zfca := .s 0 (sV .str .s) fun y0 => .s 4 (sV (.sl 5 (.int .u8)) (.o .s)) fun y4 => .s 5 (sV (.int .i64) .s) fun y5 => .e ⟨y0, y4, y5⟩
noncomputable def zXja (R : Type) (K : Ex → St → Option R) : (zfca → Option R) → zfca → Option R := zcba (fun e2 e3 => K .ret (St.ofList [(2, (.v (.sl 5 (.int .u8)) (.o .s) e2)), (3, (.v .bool .s e3))])) (fun e0 e4 => K (.exit 0) (St.ofList [(0, (.v .str .s e0)), (4, (.v (.sl 5 (.int .u8)) (.o .s) e4))]))
noncomputable def zvga : Code := match zrfa 3 (body Tryd.f36.body) with | some c => c | none => .skip
noncomputable def zlfa : Loops := fun z i R st K => match z, i with
 | false, 3 => lpE zYia zLia (lpL zXja K) st
 | _, _ => none
theorem zkla : LStep zbca zlfa inl0 zvga zYia zmma zkoa zXja := fun R K rec x => by kernel_rfl
theorem zsna : zrha zbca zlfa inl0 zvga := zWba zkla (p := zLia) (i := 3) (fun _ _ _ => ⟨rfl, rfl⟩) (by kernel_rfl) (fun R st K => by kernel_rfl)
theorem zuma : zZaa zbca zlfa inl0 (body Tryd.f36.body) := by
 refine zCaa (fun c hc => ?_) (fun c hc => ?_)
 ·rw [show zlea (body Tryd.f36.body) = [zvga] by kernel_rfl] at hc
  simp only [List.mem_cons, List.not_mem_nil, or_false] at hc
  rcases hc with rfl
  ·exact zsna
 ·rw [show zmea zbca (body Tryd.f36.body) = [] by kernel_rfl] at hc; cases hc
noncomputable def zBba {R : Type} (a0 : List UInt8) (K : (List (Int)) → Bool → Option R) : Option R :=
 loopN (zcba (fun w1 w2 =>
 K w1 w2) (fun w3 w4 =>
 let v5 := ((List.length w3 : Nat) : Int)
 let v6 := decide (v5 > (0 : Int))
 cond v6
 (let v7 := ((List.length w3 : Nat) : Int)
 cond ((2 : Int) != 0)
 (let v8 := Int.tmod v7 (2 : Int)
 let v9 := v8 == (0 : Int)
 K w4 v9) none)
 (K w4 false))) zyfa ⟨a0, ([] : List (Int)), (0 : Int)⟩
noncomputable def zOha : CSpec := { ins := [(.val .str .s)], outs := [((.sl 5 (.int .u8)), (.o .s)), (.bool, .s)], fn := fun (d : (List UInt8) × Unit) K _ => zBba d.1 (fun r0 r1 => K ((r0, r1, ()) : (List (Int)) × Bool × Unit) ((()) : Unit)) }
theorem zZla : Holds Tryd.prog 36 zOha := zsaa (env := zbca) (inl := inl0) (lp := zlfa) (rs := [(2, none), (3, none)]) (code := body Tryd.f36.body) ⟨mixed, envTyOk.ty, envTyOk.eq⟩ zCma zTaa Tryd.func36 zuma (by kernel_rfl) (by kernel_rfl) (by kernel_rfl) (by kernel_rfl) (by kernel_rfl) (by kernel_rfl) fun d R K Kp => by kernel_rfl
noncomputable def zLca : Env := { ty := envTy, eq := envEq, gam := noG, n := Tryd.f64.ntmps }
structure zeca where
 f0 : List UInt8
 f4 : Int
 f5 : Int
noncomputable def zbba {R : Type} (k_ret : Int → Bool → Option R) (k_exit_0 : Int → Option R) (rec : zeca → Option R) (x : zeca) : Option R :=
 let v1 := ((List.length x.f0 : Nat) : Int)
 let v2 := decide (x.f5 < v1)
 cond v2
 (cond (inB x.f5 (List.length x.f0))
 (let v3 := bt x.f0 x.f5
 let v4 := IntKind.u64.wrap v3
 let v5 := IntKind.u64.wrap (v4 - (48 : Int))
 cond (inB x.f5 (List.length x.f0))
 (let v6 := bt x.f0 x.f5
 let v7 := decide (v6 < (48 : Int))
 cond v7
 (k_ret (0 : Int) false)
 (cond (inB x.f5 (List.length x.f0))
 (let v8 := bt x.f0 x.f5
 let v9 := decide (v8 > (57 : Int))
 cond v9
 (k_ret (0 : Int) false)
 (let v10 := IntKind.u64.wrap ((18446744073709551615 : Int) - v5)
 cond ((10 : Int) != 0)
 (let v11 := IntKind.u64.wrap (Int.tdiv v10 (10 : Int))
 let v12 := decide (x.f4 > v11)
 cond v12
 (k_ret (0 : Int) false)
 (let v13 := IntKind.u64.wrap (x.f4 * (10 : Int))
 let v14 := IntKind.u64.wrap (v13 + v5)
 let v15 := IntKind.i64.wrap (x.f5 + (1 : Int))
 rec ⟨x.f0, v14, v15⟩)) none)) none)) none) none)
 (k_exit_0 x.f4)
noncomputable def zjoa (x : zeca) : St := St.ofList [(0, (.v .str .s x.f0)), (4, (.v (.int .u64) .s x.f4)), (5, (.v (.int .i64) .s x.f5))]
def zlma : Ex → List (Nat × Bool) | .ret => [(2, false), (3, false)] | .exit 0 => [(4, false)] | _ => []
def zXia : List (Nat × Bool) := [(0, false), (4, false), (5, false)]
noncomputable def zKia : Pt zeca := .s 0 (sV .str .s) fun y0 => .s 4 (sV (.int .u64) .s) fun y4 => .s 5 (sV (.int .i64) .s) fun y5 => .e ⟨y0, y4, y5⟩
noncomputable def zWja (R : Type) (K : Ex → St → Option R) : (zeca → Option R) → zeca → Option R := zbba (fun e2 e3 => K .ret (St.ofList [(2, (.v (.int .u64) .s e2)), (3, (.v .bool .s e3))])) (fun e4 => K (.exit 0) (St.ofList [(4, (.v (.int .u64) .s e4))]))
noncomputable def zuga : Code := match zrfa 5 (body Tryd.f64.body) with | some c => c | none => .skip
noncomputable def zkfa : Loops := fun z i R st K => match z, i with
 | false, 5 => lpE zXia zKia (lpL zWja K) st
 | _, _ => none
theorem zjla : LStep zLca zkfa inl0 zuga zXia zlma zjoa zWja := fun R K rec x => by kernel_rfl
theorem zrna : zrha zLca zkfa inl0 zuga := zWba zjla (p := zKia) (i := 5) (fun _ _ _ => ⟨rfl, rfl⟩) (by kernel_rfl) (fun R st K => by kernel_rfl)
theorem ztma : zZaa zLca zkfa inl0 (body Tryd.f64.body) := by
 refine zCaa (fun c hc => ?_) (fun c hc => ?_)
 ·rw [show zlea (body Tryd.f64.body) = [zuga] by kernel_rfl] at hc
  simp only [List.mem_cons, List.not_mem_nil, or_false] at hc
  rcases hc with rfl
  ·exact zrna
 ·rw [show zmea zLca (body Tryd.f64.body) = [] by kernel_rfl] at hc; cases hc
noncomputable def zSaa {R : Type} (a0 : List UInt8) (K : Int → Bool → Option R) : Option R :=
 let v1 := a0 == ([] : List UInt8)
 cond v1
 (K (0 : Int) false)
 (let v2 := ((List.length a0 : Nat) : Int)
 let v3 := decide (v2 > (20 : Int))
 cond v3
 (K (0 : Int) false)
 (let v4 := ((List.length a0 : Nat) : Int)
 let v5 := decide (v4 > (1 : Int))
 cond v5
 (cond (inB (0 : Int) (List.length a0))
 (let v6 := bt a0 (0 : Int)
 let v7 := v6 == (48 : Int)
 cond v7
 (K (0 : Int) false)
 (loopN (zbba (fun w8 w9 =>
 K w8 w9) (fun w10 =>
 K w10 true)) zyfa ⟨a0, (0 : Int), (0 : Int)⟩)) none)
 (loopN (zbba (fun w11 w12 =>
 K w11 w12) (fun w13 =>
 K w13 true)) zyfa ⟨a0, (0 : Int), (0 : Int)⟩)))
noncomputable def zofa : CSpec := { ins := [(.val .str .s)], outs := [((.int .u64), .s), (.bool, .s)], fn := fun (d : (List UInt8) × Unit) K _ => zSaa d.1 (fun r0 r1 => K ((r0, r1, ()) : Int × Bool × Unit) ((()) : Unit)) }
theorem zcja : Holds Tryd.prog 64 zofa := zsaa (env := zLca) (inl := inl0) (lp := zkfa) (rs := [(2, none), (3, none)]) (code := body Tryd.f64.body) ⟨mixed, envTyOk.ty, envTyOk.eq⟩ (fun _ _ _ h => by cases h) zTaa Tryd.func64 ztma (by kernel_rfl) (by kernel_rfl) (by kernel_rfl) (by kernel_rfl) (by kernel_rfl) (by kernel_rfl) fun d R K Kp => by kernel_rfl
noncomputable def zmia : List (FuncId × List FuncId × CSpec) := [(64, [], zofa)]
noncomputable def zmja : Env := { ty := envTy, eq := envEq, gam := (gamL zmia), n := Tryd.f39.ntmps }
theorem zSla : EnvFn Tryd.prog zmja := fun f gs c h => zKba (l := zmia) ⟨zcja, trivial⟩ f gs c h
noncomputable def zaaa {R : Type} (a0 : List UInt8) (K : Int → Bool → Option R) : Option R :=
 zSaa a0 fun r1 r2 =>
 let v3 := !r2
 cond v3
 (K (0 : Int) false)
 (let v4 := decide (r1 > (4294967295 : Int))
 cond v4
 (K (0 : Int) false)
 (let v5 := IntKind.i64.wrap r1
 K v5 true))
noncomputable def zuea : CSpec := { ins := [(.val .str .s)], outs := [((.int .i64), .s), (.bool, .s)], fn := fun (d : (List UInt8) × Unit) K _ => zaaa d.1 (fun r0 r1 => K ((r0, r1, ()) : Int × Bool × Unit) ((()) : Unit)) }
theorem zJha : Holds Tryd.prog 39 zuea := zsaa (env := zmja) (inl := inl0) (lp := lp0) (rs := [(2, none), (3, none)]) (code := body Tryd.f39.body) ⟨mixed, envTyOk.ty, envTyOk.eq⟩ zSla zTaa Tryd.func39 (zraa (by kernel_rfl) (by kernel_rfl)) (by kernel_rfl) (by kernel_rfl) (by kernel_rfl) (by kernel_rfl) (by kernel_rfl) (by kernel_rfl) fun d R K Kp => by kernel_rfl
noncomputable def zeja : List (FuncId × List FuncId × CSpec) := [(39, [], zuea), (64, [], zofa)]
noncomputable def zFoa : Nat → Bool
 | 76 => true
 | _ => false
noncomputable def zUoa : Nat → Bool
 | 9 => true
 | 12 => true
 | 15 => true
 | 17 => true
 | 20 => true
 | _ => false
noncomputable def zRoa : Nat → Option (List Nat)
 | 0 => some [0]
 | 1 => some [0, 2]
 | 2 => some [0, 2, 4]
 | 3 => some [0, 2, 4]
 | 4 => some [0, 2, 4, 5, 6]
 | 5 => some [0, 2, 4, 6]
 | 6 => some [2, 4, 6]
 | 7 => some [0, 2, 4, 6]
 | 8 => some [2, 4]
 | 9 => some [0, 2, 4, 6]
 | 10 => some [2, 4, 6, 7, 8]
 | 11 => some [2, 4, 6, 8]
 | 12 => some [0, 2, 4]
 | 13 => some [0, 2, 4]
 | 14 => some [0, 2, 4]
 | 15 => some [0, 2, 4]
 | 16 => some [2, 4]
 | 17 => some [0, 2, 4]
 | 18 => some [0, 2, 4]
 | 19 => some [0, 2, 4]
 | 20 => some [0, 2, 4]
 | 21 => some [2, 4, 9, 10]
 | 22 => some [2, 4, 10]
 | _ => none
noncomputable def zoaa : Env := { ty := envTy, eq := envEq, gam := (gamL zeja), n := Tryd.f37.ntmps, sb := zFoa, js := zUoa, lv := zRoa }
theorem zDma : EnvFn Tryd.prog zoaa := fun f gs c h => zKba (l := zeja) ⟨zJha, zcja, trivial⟩ f gs c h
structure zwea where
 f0 : List (List UInt8)
 f2 : (Int) × (Bool) × (Int) × (Int) × (Bool) × (Int) × Unit
 f4 : (Int) × (Bool) × (Int) × (Int) × (Bool) × (Int) × Unit
 f6 : Bool
noncomputable def zyea {R : Type} (k_ret : ((Int) × (Bool) × (Int) × (Int) × (Bool) × (Int) × Unit) → Bool → Option R) (k_normal : (List (List UInt8)) → ((Int) × (Bool) × (Int) × (Int) × (Bool) × (Int) × Unit) → ((Int) × (Bool) × (Int) × (Int) × (Bool) × (Int) × Unit) → Bool → Option R) (x : zwea) : Option R :=
 let v1 := ((List.length x.f0 : Nat) : Int)
 let v2 := v1 != (4 : Int)
 cond v2
 (k_ret x.f4 false)
 (cond (inB (2 : Int) (List.length x.f0))
 (let v3 := List.getD x.f0 (2 : Int).toNat ([] : List UInt8)
 let v4 := !(v3 == ([109, 97, 120] : List UInt8))
 cond v4
 (k_ret x.f4 false)
 (k_normal x.f0 x.f2 x.f4 x.f6)) none)
noncomputable def zooa (x : zwea) : St := St.ofList [(0, (.v (.sl 9 .str) .s x.f0)), (2, (.v (.ptr 38 (.pair (.int .i64) (.pair .bool Ty0))) (.o .s) (some x.f2))), (4, (.v (.ptr 38 (.pair (.int .i64) (.pair .bool Ty0))) (.o .s) (some x.f4))), (6, (.v .bool .s x.f6))]
def zzma : Ex → List (Nat × Bool) | .ret => [(2, false), (3, false)] | .normal => [(0, false), (2, false), (4, false), (6, false)] | _ => []
def zZha : List (Nat × Bool) := [(0, false), (2, false), (4, false), (6, false)]
noncomputable def zXha : Pt zwea := .s 0 (sV (.sl 9 .str) .s) fun y0 => .s 2 (sP 38 (.pair (.int .i64) (.pair .bool Ty0)) (.o .s)) fun y2 => .s 4 (sP 38 (.pair (.int .i64) (.pair .bool Ty0)) (.o .s)) fun y4 => .s 6 (sV .bool .s) fun y6 => .e ⟨y0, y2, y4, y6⟩
noncomputable def zVia (R : Type) (K : Ex → St → Option R) : zwea → Option R := zyea (fun e2 e3 => K .ret (St.ofList [(2, (.v (.ptr 38 (.pair (.int .i64) (.pair .bool Ty0))) (.o .s) (some e2))), (3, (.v .bool .s e3))])) (fun e0 e2 e4 e6 => K .normal (St.ofList [(0, (.v (.sl 9 .str) .s e0)), (2, (.v (.ptr 38 (.pair (.int .i64) (.pair .bool Ty0))) (.o .s) (some e2))), (4, (.v (.ptr 38 (.pair (.int .i64) (.pair .bool Ty0))) (.o .s) (some e4))), (6, (.v .bool .s e6))]))
noncomputable def zoga : Code := match joinC 9 (body Tryd.f37.body) with | some c => c | none => .skip
structure zNda where
 f0 : List (List UInt8)
 f2 : (Int) × (Bool) × (Int) × (Int) × (Bool) × (Int) × Unit
 f4 : (Int) × (Bool) × (Int) × (Int) × (Bool) × (Int) × Unit
noncomputable def zSda {R : Type} (k_ret : ((Int) × (Bool) × (Int) × (Int) × (Bool) × (Int) × Unit) → Bool → Option R) (k_normal : (List (List UInt8)) → ((Int) × (Bool) × (Int) × (Int) × (Bool) × (Int) × Unit) → ((Int) × (Bool) × (Int) × (Int) × (Bool) × (Int) × Unit) → Option R) (x : zNda) : Option R :=
 let v1 := ((List.length x.f0 : Nat) : Int)
 let v2 := decide (v1 ≥ (2 : Int))
 cond v2
 (cond (inB (0 : Int) (List.length x.f0))
 (let v3 := List.getD x.f0 (0 : Int).toNat ([] : List UInt8)
 let v4 := v3 == ([116, 97, 98, 108, 101] : List UInt8)
 cond v4
 (cond (inB (1 : Int) (List.length x.f0))
 (let v5 := List.getD x.f0 (1 : Int).toNat ([] : List UInt8)
 zaaa v5 fun r6 r7 =>
 let v8 := ((List.length x.f0 : Nat) : Int)
 let v9 := v8 == (2 : Int)
 cond v9
 (k_ret (r6, x.f4.2) r7)
 (zyea (fun w10 w11 =>
 k_ret w10 w11) (fun w12 w13 w14 w15 =>
 cond (inB (3 : Int) (List.length w12))
 (let v16 := List.getD w12 (3 : Int).toNat ([] : List UInt8)
 zaaa v16 fun r17 r18 =>
 cond w15
 (k_ret (w14.1, (true, (r17, w14.2.2.2))) r18)
 (k_ret (w14.1, (true, (r17, w14.2.2.2))) false)) none) ⟨x.f0, x.f2, (r6, x.f4.2), r7⟩)) none)
 (cond (inB (0 : Int) (List.length x.f0))
 (let v19 := List.getD x.f0 (0 : Int).toNat ([] : List UInt8)
 let v20 := v19 == ([109, 101, 109, 111, 114, 121] : List UInt8)
 cond v20
 (cond (inB (1 : Int) (List.length x.f0))
 (let v21 := List.getD x.f0 (1 : Int).toNat ([] : List UInt8)
 zaaa v21 fun r22 r23 =>
 let v24 := ((List.length x.f0 : Nat) : Int)
 let v25 := v24 == (2 : Int)
 cond v25
 (k_ret (r22, x.f4.2) r23)
 (zyea (fun w26 w27 =>
 k_ret w26 w27) (fun w28 w29 w30 w31 =>
 cond (inB (3 : Int) (List.length w28))
 (let v32 := List.getD w28 (3 : Int).toNat ([] : List UInt8)
 zaaa v32 fun r33 r34 =>
 cond w31
 (k_ret (w30.1, (true, (r33, w30.2.2.2))) r34)
 (k_ret (w30.1, (true, (r33, w30.2.2.2))) false)) none) ⟨x.f0, x.f2, (r22, x.f4.2), r23⟩)) none)
 (k_normal x.f0 x.f2 x.f4)) none)) none)
 (k_normal x.f0 x.f2 x.f4)
noncomputable def zTna (x : zNda) : St := St.ofList [(0, (.v (.sl 9 .str) .s x.f0)), (2, (.v (.ptr 38 (.pair (.int .i64) (.pair .bool Ty0))) (.o .s) (some x.f2))), (4, (.v (.ptr 38 (.pair (.int .i64) (.pair .bool Ty0))) (.o .s) (some x.f4)))]
def zEla : Ex → List (Nat × Bool) | .ret => [(2, false), (3, false)] | .normal => [(0, false), (2, false), (4, false)] | _ => []
def zaha : List (Nat × Bool) := [(0, false), (2, false), (4, false)]
noncomputable def zQga : Pt zNda := .s 0 (sV (.sl 9 .str) .s) fun y0 => .s 2 (sP 38 (.pair (.int .i64) (.pair .bool Ty0)) (.o .s)) fun y2 => .s 4 (sP 38 (.pair (.int .i64) (.pair .bool Ty0)) (.o .s)) fun y4 => .e ⟨y0, y2, y4⟩
noncomputable def zdia (R : Type) (K : Ex → St → Option R) : zNda → Option R := zSda (fun e2 e3 => K .ret (St.ofList [(2, (.v (.ptr 38 (.pair (.int .i64) (.pair .bool Ty0))) (.o .s) (some e2))), (3, (.v .bool .s e3))])) (fun e0 e2 e4 => K .normal (St.ofList [(0, (.v (.sl 9 .str) .s e0)), (2, (.v (.ptr 38 (.pair (.int .i64) (.pair .bool Ty0))) (.o .s) (some e2))), (4, (.v (.ptr 38 (.pair (.int .i64) (.pair .bool Ty0))) (.o .s) (some e4)))]))
noncomputable def zvfa : Code := match joinC 12 (body Tryd.f37.body) with | some c => c | none => .skip
structure zMda where
 f0 : List (List UInt8)
 f2 : (Int) × (Bool) × (Int) × (Int) × (Bool) × (Int) × Unit
 f4 : (Int) × (Bool) × (Int) × (Int) × (Bool) × (Int) × Unit
noncomputable def zRda {R : Type} (k_normal : (List (List UInt8)) → ((Int) × (Bool) × (Int) × (Int) × (Bool) × (Int) × Unit) → ((Int) × (Bool) × (Int) × (Int) × (Bool) × (Int) × Unit) → Option R) (x : zMda) : Option R :=
 let v1 := ((List.length x.f0 : Nat) : Int)
 let v2 := decide (v1 > (0 : Int))
 cond v2
 (cond (inB (0 : Int) (List.length x.f0))
 (let v3 := List.getD x.f0 (0 : Int).toNat ([] : List UInt8)
 let v4 := v3 == ([118, 97, 114] : List UInt8)
 cond v4
 (cond (inR (1 : Int) ((List.length x.f0 : Nat) : Int) (List.length x.f0))
 (let v5 := rng x.f0 (1 : Int) ((List.length x.f0 : Nat) : Int)
 k_normal v5 x.f2 (x.f4.1, (x.f4.2.1, (x.f4.2.2.1, (x.f4.2.2.2.1, (true, x.f4.2.2.2.2.2)))))) none)
 (k_normal x.f0 x.f2 x.f4)) none)
 (k_normal x.f0 x.f2 x.f4)
noncomputable def zSna (x : zMda) : St := St.ofList [(0, (.v (.sl 9 .str) .s x.f0)), (2, (.v (.ptr 38 (.pair (.int .i64) (.pair .bool Ty0))) (.o .s) (some x.f2))), (4, (.v (.ptr 38 (.pair (.int .i64) (.pair .bool Ty0))) (.o .s) (some x.f4)))]
def zDla : Ex → List (Nat × Bool) | .normal => [(0, false), (2, false), (4, false)] | _ => []
def zZga : List (Nat × Bool) := [(0, false), (2, false), (4, false)]
noncomputable def zPga : Pt zMda := .s 0 (sV (.sl 9 .str) .s) fun y0 => .s 2 (sP 38 (.pair (.int .i64) (.pair .bool Ty0)) (.o .s)) fun y2 => .s 4 (sP 38 (.pair (.int .i64) (.pair .bool Ty0)) (.o .s)) fun y4 => .e ⟨y0, y2, y4⟩
noncomputable def zcia (R : Type) (K : Ex → St → Option R) : zMda → Option R := zRda (fun e0 e2 e4 => K .normal (St.ofList [(0, (.v (.sl 9 .str) .s e0)), (2, (.v (.ptr 38 (.pair (.int .i64) (.pair .bool Ty0))) (.o .s) (some e2))), (4, (.v (.ptr 38 (.pair (.int .i64) (.pair .bool Ty0))) (.o .s) (some e4)))]))
noncomputable def zufa : Code := match joinC 15 (body Tryd.f37.body) with | some c => c | none => .skip
structure zLda where
 f0 : List (List UInt8)
 f2 : (Int) × (Bool) × (Int) × (Int) × (Bool) × (Int) × Unit
 f4 : (Int) × (Bool) × (Int) × (Int) × (Bool) × (Int) × Unit
noncomputable def ztca {R : Type} (k_ret : ((Int) × (Bool) × (Int) × (Int) × (Bool) × (Int) × Unit) → Bool → Option R) (k_normal : (List (List UInt8)) → ((Int) × (Bool) × (Int) × (Int) × (Bool) × (Int) × Unit) → ((Int) × (Bool) × (Int) × (Int) × (Bool) × (Int) × Unit) → Option R) (x : zLda) : Option R :=
 let v1 := ((List.length x.f0 : Nat) : Int)
 let v2 := v1 != (2 : Int)
 cond v2
 (k_ret x.f4 false)
 (cond (inB (0 : Int) (List.length x.f0))
 (let v3 := List.getD x.f0 (0 : Int).toNat ([] : List UInt8)
 let v4 := !(v3 == ([105, 51, 50] : List UInt8))
 cond v4
 (cond (inB (0 : Int) (List.length x.f0))
 (let v5 := List.getD x.f0 (0 : Int).toNat ([] : List UInt8)
 let v6 := !(v5 == ([105, 54, 52] : List UInt8))
 cond v6
 (k_ret x.f4 false)
 (k_normal x.f0 x.f2 x.f4)) none)
 (k_normal x.f0 x.f2 x.f4)) none)
noncomputable def zRna (x : zLda) : St := St.ofList [(0, (.v (.sl 9 .str) .s x.f0)), (2, (.v (.ptr 38 (.pair (.int .i64) (.pair .bool Ty0))) (.o .s) (some x.f2))), (4, (.v (.ptr 38 (.pair (.int .i64) (.pair .bool Ty0))) (.o .s) (some x.f4)))]
def zCla : Ex → List (Nat × Bool) | .ret => [(2, false), (3, false)] | .normal => [(0, false), (2, false), (4, false)] | _ => []
def zYga : List (Nat × Bool) := [(0, false), (2, false), (4, false)]
noncomputable def zOga : Pt zLda := .s 0 (sV (.sl 9 .str) .s) fun y0 => .s 2 (sP 38 (.pair (.int .i64) (.pair .bool Ty0)) (.o .s)) fun y2 => .s 4 (sP 38 (.pair (.int .i64) (.pair .bool Ty0)) (.o .s)) fun y4 => .e ⟨y0, y2, y4⟩
noncomputable def zbia (R : Type) (K : Ex → St → Option R) : zLda → Option R := ztca (fun e2 e3 => K .ret (St.ofList [(2, (.v (.ptr 38 (.pair (.int .i64) (.pair .bool Ty0))) (.o .s) (some e2))), (3, (.v .bool .s e3))])) (fun e0 e2 e4 => K .normal (St.ofList [(0, (.v (.sl 9 .str) .s e0)), (2, (.v (.ptr 38 (.pair (.int .i64) (.pair .bool Ty0))) (.o .s) (some e2))), (4, (.v (.ptr 38 (.pair (.int .i64) (.pair .bool Ty0))) (.o .s) (some e4)))]))
noncomputable def ztfa : Code := match joinC 17 (body Tryd.f37.body) with | some c => c | none => .skip
structure zKda where
 f0 : List (List UInt8)
 f2 : (Int) × (Bool) × (Int) × (Int) × (Bool) × (Int) × Unit
 f4 : (Int) × (Bool) × (Int) × (Int) × (Bool) × (Int) × Unit
noncomputable def zQda {R : Type} (k_normal : (List (List UInt8)) → ((Int) × (Bool) × (Int) × (Int) × (Bool) × (Int) × Unit) → ((Int) × (Bool) × (Int) × (Int) × (Bool) × (Int) × Unit) → Option R) (x : zKda) : Option R :=
 cond (inB (0 : Int) (List.length x.f0))
 (let v1 := List.getD x.f0 (0 : Int).toNat ([] : List UInt8)
 let v2 := v1 == ([105, 54, 52] : List UInt8)
 cond v2
 (k_normal x.f0 x.f2 (x.f4.1, (x.f4.2.1, (x.f4.2.2.1, ((126 : Int), x.f4.2.2.2.2)))))
 (k_normal x.f0 x.f2 x.f4)) none
noncomputable def zQna (x : zKda) : St := St.ofList [(0, (.v (.sl 9 .str) .s x.f0)), (2, (.v (.ptr 38 (.pair (.int .i64) (.pair .bool Ty0))) (.o .s) (some x.f2))), (4, (.v (.ptr 38 (.pair (.int .i64) (.pair .bool Ty0))) (.o .s) (some x.f4)))]
def zBla : Ex → List (Nat × Bool) | .normal => [(0, false), (2, false), (4, false)] | _ => []
def zXga : List (Nat × Bool) := [(0, false), (2, false), (4, false)]
noncomputable def zNga : Pt zKda := .s 0 (sV (.sl 9 .str) .s) fun y0 => .s 2 (sP 38 (.pair (.int .i64) (.pair .bool Ty0)) (.o .s)) fun y2 => .s 4 (sP 38 (.pair (.int .i64) (.pair .bool Ty0)) (.o .s)) fun y4 => .e ⟨y0, y2, y4⟩
noncomputable def zaia (R : Type) (K : Ex → St → Option R) : zKda → Option R := zQda (fun e0 e2 e4 => K .normal (St.ofList [(0, (.v (.sl 9 .str) .s e0)), (2, (.v (.ptr 38 (.pair (.int .i64) (.pair .bool Ty0))) (.o .s) (some e2))), (4, (.v (.ptr 38 (.pair (.int .i64) (.pair .bool Ty0))) (.o .s) (some e4)))]))
noncomputable def zsfa : Code := match joinC 20 (body Tryd.f37.body) with | some c => c | none => .skip
noncomputable def zAaa : Loops := fun z i R st K => match z, i with
 | true, 9 => lpE zZha zXha (zVia R K) st
 | true, 12 => lpE zaha zQga (zdia R K) st
 | true, 15 => lpE zZga zPga (zcia R K) st
 | true, 17 => lpE zYga zOga (zbia R K) st
 | true, 20 => lpE zXga zNga (zaia R K) st
 | _, _ => none
theorem zHka : JStep zoaa zAaa inl0 zoga zzma zooa zVia := fun R K x => by kernel_rfl
theorem zBma : zQfa zoaa zAaa inl0 zoga 9 := zkba (hd := zZha) zHka (p := zXha) (fun _ _ _ _ => ⟨rfl, rfl⟩) (fun R st K => by kernel_rfl)
theorem zhka : JStep zoaa zAaa inl0 zvfa zEla zTna zdia := fun R K x => by kernel_rfl
theorem zLla : zQfa zoaa zAaa inl0 zvfa 12 := zkba (hd := zaha) zhka (p := zQga) (fun _ _ _ => ⟨rfl, rfl⟩) (fun R st K => by kernel_rfl)
theorem zgka : JStep zoaa zAaa inl0 zufa zDla zSna zcia := fun R K x => by kernel_rfl
theorem zKla : zQfa zoaa zAaa inl0 zufa 15 := zkba (hd := zZga) zgka (p := zPga) (fun _ _ _ => ⟨rfl, rfl⟩) (fun R st K => by kernel_rfl)
theorem zfka : JStep zoaa zAaa inl0 ztfa zCla zRna zbia := fun R K x => by kernel_rfl
theorem zJla : zQfa zoaa zAaa inl0 ztfa 17 := zkba (hd := zYga) zfka (p := zOga) (fun _ _ _ => ⟨rfl, rfl⟩) (fun R st K => by kernel_rfl)
theorem zeka : JStep zoaa zAaa inl0 zsfa zBla zQna zaia := fun R K x => by kernel_rfl
theorem zIla : zQfa zoaa zAaa inl0 zsfa 20 := zkba (hd := zXga) zeka (p := zNga) (fun _ _ _ => ⟨rfl, rfl⟩) (fun R st K => by kernel_rfl)
theorem zvma : zZaa zoaa zAaa inl0 (body Tryd.f37.body) := by
 refine zCaa (fun c hc => ?_) (fun c hc => ?_)
 ·rw [show zlea (body Tryd.f37.body) = [] by kernel_rfl] at hc; cases hc
 ·rw [show zmea zoaa (body Tryd.f37.body) = [(zoga, 9), (zsfa, 20), (ztfa, 17), (zufa, 15), (zvfa, 12)] by kernel_rfl] at hc
  simp only [List.mem_cons, List.not_mem_nil, or_false] at hc
  rcases hc with rfl | rfl | rfl | rfl | rfl
  ·exact zBma
  ·exact zIla
  ·exact zJla
  ·exact zKla
  ·exact zLla
noncomputable def zYaa {R : Type} (a0 : List (List UInt8)) (K : ((Int) × (Bool) × (Int) × (Int) × (Bool) × (Int) × Unit) → Bool → Option R) : Option R :=
 zSda (fun w1 w2 =>
 K w1 w2) (fun w3 w4 w5 =>
 zRda (fun w6 w7 w8 =>
 ztca (fun w9 w10 =>
 K w9 w10) (fun w11 w12 w13 =>
 zQda (fun w14 w15 w16 =>
 cond (inB (1 : Int) (List.length w14))
 (let v17 := List.getD w14 (1 : Int).toNat ([] : List UInt8)
 zSaa v17 fun r18 r19 =>
 K (w16.1, (w16.2.1, (w16.2.2.1, (w16.2.2.2.1, (w16.2.2.2.2.1, (r18, w16.2.2.2.2.2.2)))))) r19) none) ⟨w11, w12, (w13.1, (w13.2.1, (w13.2.2.1, ((127 : Int), w13.2.2.2.2))))⟩) ⟨w6, w7, w8⟩) ⟨w3, w4, w5⟩) ⟨a0, ((0 : Int), (false, ((0 : Int), ((0 : Int), (false, ((0 : Int), ())))))), ((0 : Int), (false, ((0 : Int), ((0 : Int), (false, ((0 : Int), ()))))))⟩
noncomputable def zWka : CSpec := { ins := [(.val (.sl 9 .str) .s)], outs := [((.pair (.int .i64) (.pair .bool Ty0)), .s), (.bool, .s)], fn := fun (d : (List (List UInt8)) × Unit) K _ => zYaa d.1 (fun r0 r1 => K ((r0, r1, ()) : ((Int) × (Bool) × (Int) × (Int) × (Bool) × (Int) × Unit) × Bool × Unit) ((()) : Unit)) }
theorem zFpa : Holds Tryd.prog 37 zWka := zsaa (env := zoaa) (inl := inl0) (lp := zAaa) (rs := [(2, some 38), (3, none)]) (code := body Tryd.f37.body) ⟨mixed, envTyOk.ty, envTyOk.eq⟩ zDma zTaa Tryd.func37 zvma (by kernel_rfl) (by kernel_rfl) (by kernel_rfl) (by kernel_rfl) (by kernel_rfl) (by kernel_rfl) fun d R K Kp => by kernel_rfl
noncomputable def zlia : List (FuncId × List FuncId × CSpec) := [(64, [], zofa)]
noncomputable def zNba : Env := { ty := envTy, eq := envEq, gam := (gamL zlia), n := Tryd.f41.ntmps }
theorem zRla : EnvFn Tryd.prog zNba := fun f gs c h => zKba (l := zlia) ⟨zcja, trivial⟩ f gs c h
structure zPba where
 f0 : List (List UInt8)
 f4 : List (Int)
 f5 : Int
noncomputable def zRba {R : Type} (k_ret : (List (Int)) → Bool → Option R) (k_exit_0 : (List (Int)) → Option R) (rec : zPba → Option R) (x : zPba) : Option R :=
 let v1 := ((List.length x.f0 : Nat) : Int)
 let v2 := decide (x.f5 < v1)
 cond v2
 (cond (inB x.f5 (List.length x.f0))
 (let v3 := List.getD x.f0 x.f5.toNat ([] : List UInt8)
 zSaa v3 fun r4 r5 =>
 let v6 := !r5
 cond v6
 (k_ret ([] : List (Int)) false)
 (let v7 := List.set (List.replicate 1 (0 : Int)) 0 r4
 cond (decide (List.length x.f4 + List.length v7 ≤ most))
 (let v8 := x.f4 ++ v7
 let v9 := IntKind.i64.wrap (x.f5 + (1 : Int))
 rec ⟨x.f0, v8, v9⟩) none)) none)
 (k_exit_0 x.f4)
noncomputable def zPna (x : zPba) : St := St.ofList [(0, (.v (.sl 9 .str) .s x.f0)), (4, (.v (.sl 36 (.int .u64)) (.o .s) x.f4)), (5, (.v (.int .i64) .s x.f5))]
def ztla : Ex → List (Nat × Bool) | .ret => [(2, false), (3, false)] | .exit 0 => [(4, false)] | _ => []
def ziia : List (Nat × Bool) := [(0, false), (4, false), (5, false)]
noncomputable def zVha : Pt zPba := .s 0 (sV (.sl 9 .str) .s) fun y0 => .s 4 (sV (.sl 36 (.int .u64)) (.o .s)) fun y4 => .s 5 (sV (.int .i64) .s) fun y5 => .e ⟨y0, y4, y5⟩
noncomputable def zvja (R : Type) (K : Ex → St → Option R) : (zPba → Option R) → zPba → Option R := zRba (fun e2 e3 => K .ret (St.ofList [(2, (.v (.sl 36 (.int .u64)) (.o .s) e2)), (3, (.v .bool .s e3))])) (fun e4 => K (.exit 0) (St.ofList [(4, (.v (.sl 36 (.int .u64)) (.o .s) e4))]))
noncomputable def zHfa : Code := match zrfa 3 (body Tryd.f41.body) with | some c => c | none => .skip
noncomputable def zrea : Loops := fun z i R st K => match z, i with
 | false, 3 => lpE ziia zVha (lpL zvja K) st
 | _, _ => none
theorem zska : LStep zNba zrea inl0 zHfa ziia ztla zPna zvja := fun R K rec x => by kernel_rfl
theorem zrma : zrha zNba zrea inl0 zHfa := zWba zska (p := zVha) (i := 3) (fun _ _ _ => ⟨rfl, rfl⟩) (by kernel_rfl) (fun R st K => by kernel_rfl)
theorem zyla : zZaa zNba zrea inl0 (body Tryd.f41.body) := by
 refine zCaa (fun c hc => ?_) (fun c hc => ?_)
 ·rw [show zlea (body Tryd.f41.body) = [zHfa] by kernel_rfl] at hc
  simp only [List.mem_cons, List.not_mem_nil, or_false] at hc
  rcases hc with rfl
  ·exact zrma
 ·rw [show zmea zNba (body Tryd.f41.body) = [] by kernel_rfl] at hc; cases hc
noncomputable def zPaa {R : Type} (a0 : List (List UInt8)) (K : (List (Int)) → Bool → Option R) : Option R :=
 loopN (zRba (fun w1 w2 =>
 K w1 w2) (fun w3 =>
 let v4 := ((List.length w3 : Nat) : Int)
 let v5 := decide (v4 ≤ (8 : Int))
 K w3 v5)) zyfa ⟨a0, ([] : List (Int)), (0 : Int)⟩
noncomputable def zsga : CSpec := { ins := [(.val (.sl 9 .str) .s)], outs := [((.sl 36 (.int .u64)), (.o .s)), (.bool, .s)], fn := fun (d : (List (List UInt8)) × Unit) K _ => zPaa d.1 (fun r0 r1 => K ((r0, r1, ()) : (List (Int)) × Bool × Unit) ((()) : Unit)) }
theorem zOka : Holds Tryd.prog 41 zsga := zsaa (env := zNba) (inl := inl0) (lp := zrea) (rs := [(2, none), (3, none)]) (code := body Tryd.f41.body) ⟨mixed, envTyOk.ty, envTyOk.eq⟩ zRla zTaa Tryd.func41 zyla (by kernel_rfl) (by kernel_rfl) (by kernel_rfl) (by kernel_rfl) (by kernel_rfl) (by kernel_rfl) fun d R K Kp => by kernel_rfl
noncomputable def znia : List (FuncId × List FuncId × CSpec) := [(41, [], zsga), (39, [], zuea), (36, [], zOha)]
noncomputable def zWna : Nat → Bool
 | 23 => true
 | 35 => true
 | 77 => true
 | _ => false
noncomputable def zeoa : Nat → Bool
 | 5 => true
 | 8 => true
 | 11 => true
 | 15 => true
 | 17 => true
 | 21 => true
 | _ => false
noncomputable def zcoa : Nat → Option (List Nat)
 | 0 => some [0]
 | 1 => some [0, 2]
 | 2 => some [0, 2, 4]
 | 3 => some [0, 2, 4]
 | 4 => some [0, 2, 4]
 | 5 => some [0, 2, 4]
 | 6 => some [0, 2, 4]
 | 7 => some [0, 2, 4]
 | 8 => some [0, 2, 4]
 | 9 => some [0, 2, 4]
 | 10 => some [0, 2, 4, 5]
 | 11 => some [0, 2, 4, 5]
 | 12 => some [0, 2, 4, 5]
 | 13 => some [0, 2, 4, 5, 6, 7]
 | 14 => some [2, 4]
 | 15 => some [0, 2, 4, 5, 6]
 | 16 => some [0, 2, 4, 5]
 | 17 => some [0, 2, 4]
 | 18 => some [2, 4]
 | 19 => some [0, 2, 4]
 | 20 => some [2, 4]
 | 21 => some [0, 2, 4]
 | 22 => some [0, 2, 4, 8, 9]
 | 23 => some [2, 4, 8, 9, 10, 11]
 | 24 => some [2, 4, 9, 11]
 | _ => none
noncomputable def zfaa : Env := { ty := envTy, eq := envEq, gam := (gamL znia), n := Tryd.f38.ntmps, sb := zWna, js := zeoa, lv := zcoa }
theorem zTla : EnvFn Tryd.prog zfaa := fun f gs c h => zKba (l := znia) ⟨zOka, zJha, zZla, trivial⟩ f gs c h
structure zQca where
 f0 : List (List UInt8)
 f2 : (Bool) × (Bool) × (List (Int)) × (Int) × (List (Int)) × Unit
 f4 : (Bool) × (Bool) × (List (Int)) × (Int) × (List (Int)) × Unit
 f5 : Int
noncomputable def zSca {R : Type} (k_normal : (List (List UInt8)) → ((Bool) × (Bool) × (List (Int)) × (Int) × (List (Int)) × Unit) → ((Bool) × (Bool) × (List (Int)) × (Int) × (List (Int)) × Unit) → Int → Option R) (k_exit_0 : (List (List UInt8)) → ((Bool) × (Bool) × (List (Int)) × (Int) × (List (Int)) × Unit) → ((Bool) × (Bool) × (List (Int)) × (Int) × (List (Int)) × Unit) → Int → Option R) (x : zQca) : Option R :=
 let v1 := ((List.length x.f0 : Nat) : Int)
 let v2 := decide (x.f5 < v1)
 cond v2
 (cond (inB x.f5 (List.length x.f0))
 (let v3 := List.getD x.f0 x.f5.toNat ([] : List UInt8)
 let v4 := !(v3 == ([97, 116] : List UInt8))
 cond v4
 (k_normal x.f0 x.f2 x.f4 x.f5)
 (k_exit_0 x.f0 x.f2 x.f4 x.f5)) none)
 (k_exit_0 x.f0 x.f2 x.f4 x.f5)
noncomputable def zMma (x : zQca) : St := St.ofList [(0, (.v (.sl 9 .str) .s x.f0)), (2, (.v (.ptr 41 (.pair .bool (.pair .bool Ty1))) (.o (.p .s (.p .s (.p (.o .s) (.p .s (.p (.o .s) .s)))))) (some x.f2))), (4, (.v (.ptr 41 (.pair .bool (.pair .bool Ty1))) (.o (.p .s (.p .s (.p (.o .s) (.p .s (.p (.o .s) .s)))))) (some x.f4))), (5, (.v (.int .i64) .s x.f5))]
def zFka : Ex → List (Nat × Bool) | .normal => [(0, false), (2, false), (4, false), (5, false)] | .exit 0 => [(0, false), (2, false), (4, false), (5, false)] | _ => []
def zcga : List (Nat × Bool) := [(0, false), (2, false), (4, false), (5, false)]
noncomputable def zYfa : Pt zQca := .s 0 (sV (.sl 9 .str) .s) fun y0 => .s 2 (sP 41 (.pair .bool (.pair .bool Ty1)) (.o (.p .s (.p .s (.p (.o .s) (.p .s (.p (.o .s) .s))))))) fun y2 => .s 4 (sP 41 (.pair .bool (.pair .bool Ty1)) (.o (.p .s (.p .s (.p (.o .s) (.p .s (.p (.o .s) .s))))))) fun y4 => .s 5 (sV (.int .i64) .s) fun y5 => .e ⟨y0, y2, y4, y5⟩
noncomputable def zgha (R : Type) (K : Ex → St → Option R) : zQca → Option R := zSca (fun e0 e2 e4 e5 => K .normal (St.ofList [(0, (.v (.sl 9 .str) .s e0)), (2, (.v (.ptr 41 (.pair .bool (.pair .bool Ty1))) (.o (.p .s (.p .s (.p (.o .s) (.p .s (.p (.o .s) .s)))))) (some e2))), (4, (.v (.ptr 41 (.pair .bool (.pair .bool Ty1))) (.o (.p .s (.p .s (.p (.o .s) (.p .s (.p (.o .s) .s)))))) (some e4))), (5, (.v (.int .i64) .s e5))])) (fun e0 e2 e4 e5 => K (.exit 0) (St.ofList [(0, (.v (.sl 9 .str) .s e0)), (2, (.v (.ptr 41 (.pair .bool (.pair .bool Ty1))) (.o (.p .s (.p .s (.p (.o .s) (.p .s (.p (.o .s) .s)))))) (some e2))), (4, (.v (.ptr 41 (.pair .bool (.pair .bool Ty1))) (.o (.p .s (.p .s (.p (.o .s) (.p .s (.p (.o .s) .s)))))) (some e4))), (5, (.v (.int .i64) .s e5))]))
noncomputable def zVea : Code := match joinC 11 (body Tryd.f38.body) with | some c => c | none => .skip
structure zvba where
 f0 : List (List UInt8)
 f2 : (Bool) × (Bool) × (List (Int)) × (Int) × (List (Int)) × Unit
 f4 : (Bool) × (Bool) × (List (Int)) × (Int) × (List (Int)) × Unit
 f5 : Int
noncomputable def zyba {R : Type} (k_exit_0 : (List (List UInt8)) → ((Bool) × (Bool) × (List (Int)) × (Int) × (List (Int)) × Unit) → ((Bool) × (Bool) × (List (Int)) × (Int) × (List (Int)) × Unit) → Int → Option R) (rec : zvba → Option R) (x : zvba) : Option R :=
 zSca (fun w1 w2 w3 w4 =>
 let v5 := IntKind.i64.wrap (w4 + (1 : Int))
 rec ⟨w1, w2, w3, v5⟩) (fun w6 w7 w8 w9 =>
 k_exit_0 w6 w7 w8 w9) ⟨x.f0, x.f2, x.f4, x.f5⟩
noncomputable def zHma (x : zvba) : St := St.ofList [(0, (.v (.sl 9 .str) .s x.f0)), (2, (.v (.ptr 41 (.pair .bool (.pair .bool Ty1))) (.o (.p .s (.p .s (.p (.o .s) (.p .s (.p (.o .s) .s)))))) (some x.f2))), (4, (.v (.ptr 41 (.pair .bool (.pair .bool Ty1))) (.o (.p .s (.p .s (.p (.o .s) (.p .s (.p (.o .s) .s)))))) (some x.f4))), (5, (.v (.int .i64) .s x.f5))]
def zyka : Ex → List (Nat × Bool) | .exit 0 => [(0, false), (2, false), (4, false), (5, false)] | _ => []
def zhha : List (Nat × Bool) := [(0, false), (2, false), (4, false), (5, false)]
noncomputable def zGga : Pt zvba := .s 0 (sV (.sl 9 .str) .s) fun y0 => .s 2 (sP 41 (.pair .bool (.pair .bool Ty1)) (.o (.p .s (.p .s (.p (.o .s) (.p .s (.p (.o .s) .s))))))) fun y2 => .s 4 (sP 41 (.pair .bool (.pair .bool Ty1)) (.o (.p .s (.p .s (.p (.o .s) (.p .s (.p (.o .s) .s))))))) fun y4 => .s 5 (sV (.int .i64) .s) fun y5 => .e ⟨y0, y2, y4, y5⟩
noncomputable def zoia (R : Type) (K : Ex → St → Option R) : (zvba → Option R) → zvba → Option R := zyba (fun e0 e2 e4 e5 => K (.exit 0) (St.ofList [(0, (.v (.sl 9 .str) .s e0)), (2, (.v (.ptr 41 (.pair .bool (.pair .bool Ty1))) (.o (.p .s (.p .s (.p (.o .s) (.p .s (.p (.o .s) .s)))))) (some e2))), (4, (.v (.ptr 41 (.pair .bool (.pair .bool Ty1))) (.o (.p .s (.p .s (.p (.o .s) (.p .s (.p (.o .s) .s)))))) (some e4))), (5, (.v (.int .i64) .s e5))]))
noncomputable def zWea : Code := match zrfa 10 (body Tryd.f38.body) with | some c => c | none => .skip
structure zPda where
 f0 : List (List UInt8)
 f2 : (Bool) × (Bool) × (List (Int)) × (Int) × (List (Int)) × Unit
 f4 : (Bool) × (Bool) × (List (Int)) × (Int) × (List (Int)) × Unit
noncomputable def zUda {R : Type} (k_normal : (List (List UInt8)) → ((Bool) × (Bool) × (List (Int)) × (Int) × (List (Int)) × Unit) → ((Bool) × (Bool) × (List (Int)) × (Int) × (List (Int)) × Unit) → Option R) (x : zPda) : Option R :=
 let v1 := ((List.length x.f0 : Nat) : Int)
 let v2 := decide (v1 > (0 : Int))
 cond v2
 (cond (inB (0 : Int) (List.length x.f0))
 (let v3 := List.getD x.f0 (0 : Int).toNat ([] : List UInt8)
 let v4 := v3 == ([103, 114, 111, 119] : List UInt8)
 cond v4
 (cond (inR (1 : Int) ((List.length x.f0 : Nat) : Int) (List.length x.f0))
 (let v5 := rng x.f0 (1 : Int) ((List.length x.f0 : Nat) : Int)
 k_normal v5 x.f2 (true, x.f4.2)) none)
 (k_normal x.f0 x.f2 x.f4)) none)
 (k_normal x.f0 x.f2 x.f4)
noncomputable def zVna (x : zPda) : St := St.ofList [(0, (.v (.sl 9 .str) .s x.f0)), (2, (.v (.ptr 41 (.pair .bool (.pair .bool Ty1))) (.o (.p .s (.p .s (.p (.o .s) (.p .s (.p (.o .s) .s)))))) (some x.f2))), (4, (.v (.ptr 41 (.pair .bool (.pair .bool Ty1))) (.o (.p .s (.p .s (.p (.o .s) (.p .s (.p (.o .s) .s)))))) (some x.f4)))]
def zGla : Ex → List (Nat × Bool) | .normal => [(0, false), (2, false), (4, false)] | _ => []
def zcha : List (Nat × Bool) := [(0, false), (2, false), (4, false)]
noncomputable def zSga : Pt zPda := .s 0 (sV (.sl 9 .str) .s) fun y0 => .s 2 (sP 41 (.pair .bool (.pair .bool Ty1)) (.o (.p .s (.p .s (.p (.o .s) (.p .s (.p (.o .s) .s))))))) fun y2 => .s 4 (sP 41 (.pair .bool (.pair .bool Ty1)) (.o (.p .s (.p .s (.p (.o .s) (.p .s (.p (.o .s) .s))))))) fun y4 => .e ⟨y0, y2, y4⟩
noncomputable def zfia (R : Type) (K : Ex → St → Option R) : zPda → Option R := zUda (fun e0 e2 e4 => K .normal (St.ofList [(0, (.v (.sl 9 .str) .s e0)), (2, (.v (.ptr 41 (.pair .bool (.pair .bool Ty1))) (.o (.p .s (.p .s (.p (.o .s) (.p .s (.p (.o .s) .s)))))) (some e2))), (4, (.v (.ptr 41 (.pair .bool (.pair .bool Ty1))) (.o (.p .s (.p .s (.p (.o .s) (.p .s (.p (.o .s) .s)))))) (some e4)))]))
noncomputable def zxfa : Code := match joinC 5 (body Tryd.f38.body) with | some c => c | none => .skip
structure zOda where
 f0 : List (List UInt8)
 f2 : (Bool) × (Bool) × (List (Int)) × (Int) × (List (Int)) × Unit
 f4 : (Bool) × (Bool) × (List (Int)) × (Int) × (List (Int)) × Unit
noncomputable def zTda {R : Type} (k_normal : (List (List UInt8)) → ((Bool) × (Bool) × (List (Int)) × (Int) × (List (Int)) × Unit) → ((Bool) × (Bool) × (List (Int)) × (Int) × (List (Int)) × Unit) → Option R) (x : zOda) : Option R :=
 let v1 := ((List.length x.f0 : Nat) : Int)
 let v2 := decide (v1 > (0 : Int))
 cond v2
 (cond (inB (0 : Int) (List.length x.f0))
 (let v3 := List.getD x.f0 (0 : Int).toNat ([] : List UInt8)
 let v4 := v3 == ([116, 114, 97, 112] : List UInt8)
 cond v4
 (cond (inR (1 : Int) ((List.length x.f0 : Nat) : Int) (List.length x.f0))
 (let v5 := rng x.f0 (1 : Int) ((List.length x.f0 : Nat) : Int)
 k_normal v5 x.f2 (x.f4.1, (true, x.f4.2.2))) none)
 (k_normal x.f0 x.f2 x.f4)) none)
 (k_normal x.f0 x.f2 x.f4)
noncomputable def zUna (x : zOda) : St := St.ofList [(0, (.v (.sl 9 .str) .s x.f0)), (2, (.v (.ptr 41 (.pair .bool (.pair .bool Ty1))) (.o (.p .s (.p .s (.p (.o .s) (.p .s (.p (.o .s) .s)))))) (some x.f2))), (4, (.v (.ptr 41 (.pair .bool (.pair .bool Ty1))) (.o (.p .s (.p .s (.p (.o .s) (.p .s (.p (.o .s) .s)))))) (some x.f4)))]
def zFla : Ex → List (Nat × Bool) | .normal => [(0, false), (2, false), (4, false)] | _ => []
def zbha : List (Nat × Bool) := [(0, false), (2, false), (4, false)]
noncomputable def zRga : Pt zOda := .s 0 (sV (.sl 9 .str) .s) fun y0 => .s 2 (sP 41 (.pair .bool (.pair .bool Ty1)) (.o (.p .s (.p .s (.p (.o .s) (.p .s (.p (.o .s) .s))))))) fun y2 => .s 4 (sP 41 (.pair .bool (.pair .bool Ty1)) (.o (.p .s (.p .s (.p (.o .s) (.p .s (.p (.o .s) .s))))))) fun y4 => .e ⟨y0, y2, y4⟩
noncomputable def zeia (R : Type) (K : Ex → St → Option R) : zOda → Option R := zTda (fun e0 e2 e4 => K .normal (St.ofList [(0, (.v (.sl 9 .str) .s e0)), (2, (.v (.ptr 41 (.pair .bool (.pair .bool Ty1))) (.o (.p .s (.p .s (.p (.o .s) (.p .s (.p (.o .s) .s)))))) (some e2))), (4, (.v (.ptr 41 (.pair .bool (.pair .bool Ty1))) (.o (.p .s (.p .s (.p (.o .s) (.p .s (.p (.o .s) .s)))))) (some e4)))]))
noncomputable def zwfa : Code := match joinC 8 (body Tryd.f38.body) with | some c => c | none => .skip
structure zPca where
 f0 : List (List UInt8)
 f2 : (Bool) × (Bool) × (List (Int)) × (Int) × (List (Int)) × Unit
 f4 : (Bool) × (Bool) × (List (Int)) × (Int) × (List (Int)) × Unit
 f5 : Int
 f6 : List (Int)
 f7 : Bool
noncomputable def zYea {R : Type} (k_ret : ((Bool) × (Bool) × (List (Int)) × (Int) × (List (Int)) × Unit) → Bool → Option R) (k_normal : (List (List UInt8)) → ((Bool) × (Bool) × (List (Int)) × (Int) × (List (Int)) × Unit) → ((Bool) × (Bool) × (List (Int)) × (Int) × (List (Int)) × Unit) → Int → (List (Int)) → Option R) (x : zPca) : Option R :=
 let v1 := !x.f7
 cond v1
 (k_ret x.f4 false)
 (let v2 := ((List.length x.f6 : Nat) : Int)
 let v3 := v2 == (0 : Int)
 cond v3
 (k_ret x.f4 false)
 (k_normal x.f0 x.f2 x.f4 x.f5 x.f6))
noncomputable def zLma (x : zPca) : St := St.ofList [(0, (.v (.sl 9 .str) .s x.f0)), (2, (.v (.ptr 41 (.pair .bool (.pair .bool Ty1))) (.o (.p .s (.p .s (.p (.o .s) (.p .s (.p (.o .s) .s)))))) (some x.f2))), (4, (.v (.ptr 41 (.pair .bool (.pair .bool Ty1))) (.o (.p .s (.p .s (.p (.o .s) (.p .s (.p (.o .s) .s)))))) (some x.f4))), (5, (.v (.int .i64) .s x.f5)), (6, (.v (.sl 36 (.int .u64)) (.o .s) x.f6)), (7, (.v .bool .s x.f7))]
def zEka : Ex → List (Nat × Bool) | .ret => [(2, false), (3, false)] | .normal => [(0, false), (2, false), (4, false), (5, false), (6, false)] | _ => []
def zbga : List (Nat × Bool) := [(0, false), (2, false), (4, false), (5, false), (6, false), (7, false)]
noncomputable def zXfa : Pt zPca := .s 0 (sV (.sl 9 .str) .s) fun y0 => .s 2 (sP 41 (.pair .bool (.pair .bool Ty1)) (.o (.p .s (.p .s (.p (.o .s) (.p .s (.p (.o .s) .s))))))) fun y2 => .s 4 (sP 41 (.pair .bool (.pair .bool Ty1)) (.o (.p .s (.p .s (.p (.o .s) (.p .s (.p (.o .s) .s))))))) fun y4 => .s 5 (sV (.int .i64) .s) fun y5 => .s 6 (sV (.sl 36 (.int .u64)) (.o .s)) fun y6 => .s 7 (sV .bool .s) fun y7 => .e ⟨y0, y2, y4, y5, y6, y7⟩
noncomputable def zfha (R : Type) (K : Ex → St → Option R) : zPca → Option R := zYea (fun e2 e3 => K .ret (St.ofList [(2, (.v (.ptr 41 (.pair .bool (.pair .bool Ty1))) (.o (.p .s (.p .s (.p (.o .s) (.p .s (.p (.o .s) .s)))))) (some e2))), (3, (.v .bool .s e3))])) (fun e0 e2 e4 e5 e6 => K .normal (St.ofList [(0, (.v (.sl 9 .str) .s e0)), (2, (.v (.ptr 41 (.pair .bool (.pair .bool Ty1))) (.o (.p .s (.p .s (.p (.o .s) (.p .s (.p (.o .s) .s)))))) (some e2))), (4, (.v (.ptr 41 (.pair .bool (.pair .bool Ty1))) (.o (.p .s (.p .s (.p (.o .s) (.p .s (.p (.o .s) .s)))))) (some e4))), (5, (.v (.int .i64) .s e5)), (6, (.v (.sl 36 (.int .u64)) (.o .s) e6))]))
noncomputable def zUea : Code := match joinC 15 (body Tryd.f38.body) with | some c => c | none => .skip
structure zOca where
 f0 : List (List UInt8)
 f2 : (Bool) × (Bool) × (List (Int)) × (Int) × (List (Int)) × Unit
 f4 : (Bool) × (Bool) × (List (Int)) × (Int) × (List (Int)) × Unit
noncomputable def zxba {R : Type} (k_ret : ((Bool) × (Bool) × (List (Int)) × (Int) × (List (Int)) × Unit) → Bool → Option R) (k_normal : (List (List UInt8)) → ((Bool) × (Bool) × (List (Int)) × (Int) × (List (Int)) × Unit) → ((Bool) × (Bool) × (List (Int)) × (Int) × (List (Int)) × Unit) → Option R) (x : zOca) : Option R :=
 let v1 := ((List.length x.f0 : Nat) : Int)
 let v2 := decide (v1 > (0 : Int))
 cond v2
 (cond (inB (0 : Int) (List.length x.f0))
 (let v3 := List.getD x.f0 (0 : Int).toNat ([] : List UInt8)
 let v4 := v3 == ([103, 105, 118, 101] : List UInt8)
 cond v4
 (loopN (zyba (fun w5 w6 w7 w8 =>
 cond (inR (1 : Int) w8 (List.length w5))
 (let v9 := rng w5 (1 : Int) w8
 zPaa v9 fun r10 r11 =>
 zYea (fun w12 w13 =>
 k_ret w12 w13) (fun w14 w15 w16 w17 w18 =>
 cond (inR w17 ((List.length w14 : Nat) : Int) (List.length w14))
 (let v19 := rng w14 w17 ((List.length w14 : Nat) : Int)
 k_normal v19 w15 (w16.1, (w16.2.1, (w18, w16.2.2.2)))) none) ⟨w5, w6, w7, w8, r10, r11⟩) none)) zyfa ⟨x.f0, x.f2, x.f4, (1 : Int)⟩)
 (k_normal x.f0 x.f2 x.f4)) none)
 (k_normal x.f0 x.f2 x.f4)
noncomputable def zKma (x : zOca) : St := St.ofList [(0, (.v (.sl 9 .str) .s x.f0)), (2, (.v (.ptr 41 (.pair .bool (.pair .bool Ty1))) (.o (.p .s (.p .s (.p (.o .s) (.p .s (.p (.o .s) .s)))))) (some x.f2))), (4, (.v (.ptr 41 (.pair .bool (.pair .bool Ty1))) (.o (.p .s (.p .s (.p (.o .s) (.p .s (.p (.o .s) .s)))))) (some x.f4)))]
def zDka : Ex → List (Nat × Bool) | .ret => [(2, false), (3, false)] | .normal => [(0, false), (2, false), (4, false)] | _ => []
def zaga : List (Nat × Bool) := [(0, false), (2, false), (4, false)]
noncomputable def zWfa : Pt zOca := .s 0 (sV (.sl 9 .str) .s) fun y0 => .s 2 (sP 41 (.pair .bool (.pair .bool Ty1)) (.o (.p .s (.p .s (.p (.o .s) (.p .s (.p (.o .s) .s))))))) fun y2 => .s 4 (sP 41 (.pair .bool (.pair .bool Ty1)) (.o (.p .s (.p .s (.p (.o .s) (.p .s (.p (.o .s) .s))))))) fun y4 => .e ⟨y0, y2, y4⟩
noncomputable def zeha (R : Type) (K : Ex → St → Option R) : zOca → Option R := zxba (fun e2 e3 => K .ret (St.ofList [(2, (.v (.ptr 41 (.pair .bool (.pair .bool Ty1))) (.o (.p .s (.p .s (.p (.o .s) (.p .s (.p (.o .s) .s)))))) (some e2))), (3, (.v .bool .s e3))])) (fun e0 e2 e4 => K .normal (St.ofList [(0, (.v (.sl 9 .str) .s e0)), (2, (.v (.ptr 41 (.pair .bool (.pair .bool Ty1))) (.o (.p .s (.p .s (.p (.o .s) (.p .s (.p (.o .s) .s)))))) (some e2))), (4, (.v (.ptr 41 (.pair .bool (.pair .bool Ty1))) (.o (.p .s (.p .s (.p (.o .s) (.p .s (.p (.o .s) .s)))))) (some e4)))]))
noncomputable def zTea : Code := match joinC 17 (body Tryd.f38.body) with | some c => c | none => .skip
structure zNca where
 f0 : List (List UInt8)
 f2 : (Bool) × (Bool) × (List (Int)) × (Int) × (List (Int)) × Unit
 f4 : (Bool) × (Bool) × (List (Int)) × (Int) × (List (Int)) × Unit
noncomputable def zRca {R : Type} (k_ret : ((Bool) × (Bool) × (List (Int)) × (Int) × (List (Int)) × Unit) → Bool → Option R) (k_normal : (List (List UInt8)) → ((Bool) × (Bool) × (List (Int)) × (Int) × (List (Int)) × Unit) → ((Bool) × (Bool) × (List (Int)) × (Int) × (List (Int)) × Unit) → Option R) (x : zNca) : Option R :=
 let v1 := ((List.length x.f0 : Nat) : Int)
 let v2 := v1 != (3 : Int)
 cond v2
 (k_ret x.f4 false)
 (cond (inB (0 : Int) (List.length x.f0))
 (let v3 := List.getD x.f0 (0 : Int).toNat ([] : List UInt8)
 let v4 := !(v3 == ([97, 116] : List UInt8))
 cond v4
 (k_ret x.f4 false)
 (k_normal x.f0 x.f2 x.f4)) none)
noncomputable def zJma (x : zNca) : St := St.ofList [(0, (.v (.sl 9 .str) .s x.f0)), (2, (.v (.ptr 41 (.pair .bool (.pair .bool Ty1))) (.o (.p .s (.p .s (.p (.o .s) (.p .s (.p (.o .s) .s)))))) (some x.f2))), (4, (.v (.ptr 41 (.pair .bool (.pair .bool Ty1))) (.o (.p .s (.p .s (.p (.o .s) (.p .s (.p (.o .s) .s)))))) (some x.f4)))]
def zCka : Ex → List (Nat × Bool) | .ret => [(2, false), (3, false)] | .normal => [(0, false), (2, false), (4, false)] | _ => []
def zZfa : List (Nat × Bool) := [(0, false), (2, false), (4, false)]
noncomputable def zVfa : Pt zNca := .s 0 (sV (.sl 9 .str) .s) fun y0 => .s 2 (sP 41 (.pair .bool (.pair .bool Ty1)) (.o (.p .s (.p .s (.p (.o .s) (.p .s (.p (.o .s) .s))))))) fun y2 => .s 4 (sP 41 (.pair .bool (.pair .bool Ty1)) (.o (.p .s (.p .s (.p (.o .s) (.p .s (.p (.o .s) .s))))))) fun y4 => .e ⟨y0, y2, y4⟩
noncomputable def zdha (R : Type) (K : Ex → St → Option R) : zNca → Option R := zRca (fun e2 e3 => K .ret (St.ofList [(2, (.v (.ptr 41 (.pair .bool (.pair .bool Ty1))) (.o (.p .s (.p .s (.p (.o .s) (.p .s (.p (.o .s) .s)))))) (some e2))), (3, (.v .bool .s e3))])) (fun e0 e2 e4 => K .normal (St.ofList [(0, (.v (.sl 9 .str) .s e0)), (2, (.v (.ptr 41 (.pair .bool (.pair .bool Ty1))) (.o (.p .s (.p .s (.p (.o .s) (.p .s (.p (.o .s) .s)))))) (some e2))), (4, (.v (.ptr 41 (.pair .bool (.pair .bool Ty1))) (.o (.p .s (.p .s (.p (.o .s) (.p .s (.p (.o .s) .s)))))) (some e4)))]))
noncomputable def zSea : Code := match joinC 21 (body Tryd.f38.body) with | some c => c | none => .skip
noncomputable def zkaa : Loops := fun z i R st K => match z, i with
 | false, 10 => lpE zhha zGga (lpL zoia K) st
 | true, 11 => lpE zcga zYfa (zgha R K) st
 | true, 5 => lpE zcha zSga (zfia R K) st
 | true, 8 => lpE zbha zRga (zeia R K) st
 | true, 15 => lpE zbga zXfa (zfha R K) st
 | true, 17 => lpE zaga zWfa (zeha R K) st
 | true, 21 => lpE zZfa zVfa (zdha R K) st
 | _, _ => none
theorem zDja : JStep zfaa zkaa inl0 zVea zFka zMma zgha := fun R K x => by kernel_rfl
theorem zLka : zQfa zfaa zkaa inl0 zVea 11 := zkba (hd := zcga) zDja (p := zYfa) (fun _ _ _ _ => ⟨rfl, rfl⟩) (fun R st K => by kernel_rfl)
theorem zaka : LStep zfaa zkaa inl0 zWea zhha zyka zHma zoia := fun R K rec x => by kernel_rfl
theorem zula : zrha zfaa zkaa inl0 zWea := zWba zaka (p := zGga) (i := 10) (fun _ _ _ _ => ⟨rfl, rfl⟩) (by kernel_rfl) (fun R st K => by kernel_rfl)
theorem zjka : JStep zfaa zkaa inl0 zxfa zGla zVna zfia := fun R K x => by kernel_rfl
theorem zNla : zQfa zfaa zkaa inl0 zxfa 5 := zkba (hd := zcha) zjka (p := zSga) (fun _ _ _ => ⟨rfl, rfl⟩) (fun R st K => by kernel_rfl)
theorem zika : JStep zfaa zkaa inl0 zwfa zFla zUna zeia := fun R K x => by kernel_rfl
theorem zMla : zQfa zfaa zkaa inl0 zwfa 8 := zkba (hd := zbha) zika (p := zRga) (fun _ _ _ => ⟨rfl, rfl⟩) (fun R st K => by kernel_rfl)
theorem zCja : JStep zfaa zkaa inl0 zUea zEka zLma zfha := fun R K x => by kernel_rfl
theorem zKka : zQfa zfaa zkaa inl0 zUea 15 := zkba (hd := zbga) zCja (p := zXfa) (fun _ _ _ _ _ _ => ⟨rfl, rfl⟩) (fun R st K => by kernel_rfl)
theorem zBja : JStep zfaa zkaa inl0 zTea zDka zKma zeha := fun R K x => by kernel_rfl
theorem zJka : zQfa zfaa zkaa inl0 zTea 17 := zkba (hd := zaga) zBja (p := zWfa) (fun _ _ _ => ⟨rfl, rfl⟩) (fun R st K => by kernel_rfl)
theorem zAja : JStep zfaa zkaa inl0 zSea zCka zJma zdha := fun R K x => by kernel_rfl
theorem zIka : zQfa zfaa zkaa inl0 zSea 21 := zkba (hd := zZfa) zAja (p := zVfa) (fun _ _ _ => ⟨rfl, rfl⟩) (fun R st K => by kernel_rfl)
theorem zzla : zZaa zfaa zkaa inl0 (body Tryd.f38.body) := by
 refine zCaa (fun c hc => ?_) (fun c hc => ?_)
 ·rw [show zlea (body Tryd.f38.body) = [zWea] by kernel_rfl] at hc
  simp only [List.mem_cons, List.not_mem_nil, or_false] at hc
  rcases hc with rfl
  ·exact zula
 ·rw [show zmea zfaa (body Tryd.f38.body) = [(zVea, 11), (zUea, 15), (zSea, 21), (zTea, 17), (zwfa, 8), (zxfa, 5)] by kernel_rfl] at hc
  simp only [List.mem_cons, List.not_mem_nil, or_false] at hc
  rcases hc with rfl | rfl | rfl | rfl | rfl | rfl
  ·exact zLka
  ·exact zKka
  ·exact zIka
  ·exact zJka
  ·exact zMla
  ·exact zNla
noncomputable def zvca {R : Type} (a0 : List (List UInt8)) (K : ((Bool) × (Bool) × (List (Int)) × (Int) × (List (Int)) × Unit) → Bool → Option R) : Option R :=
 zUda (fun w1 w2 w3 =>
 zTda (fun w4 w5 w6 =>
 zxba (fun w7 w8 =>
 K w7 w8) (fun w9 w10 w11 =>
 let v12 := ((List.length w9 : Nat) : Int)
 let v13 := v12 == (0 : Int)
 cond v13
 (K w11 true)
 (zRca (fun w14 w15 =>
 K w14 w15) (fun w16 w17 w18 =>
 cond (inB (1 : Int) (List.length w16))
 (let v19 := List.getD w16 (1 : Int).toNat ([] : List UInt8)
 zaaa v19 fun r20 r21 =>
 cond (inB (2 : Int) (List.length w16))
 (let v22 := List.getD w16 (2 : Int).toNat ([] : List UInt8)
 zBba v22 fun r23 r24 =>
 cond r21
 (K (w18.1, (w18.2.1, (w18.2.2.1, (r20, (r23, w18.2.2.2.2.2))))) r24)
 (K (w18.1, (w18.2.1, (w18.2.2.1, (r20, (r23, w18.2.2.2.2.2))))) false)) none) none) ⟨w9, w10, w11⟩)) ⟨w4, w5, w6⟩) ⟨w1, w2, w3⟩) ⟨a0, (false, (false, (([] : List (Int)), ((0 : Int), (([] : List (Int)), ()))))), (false, (false, (([] : List (Int)), ((0 : Int), (([] : List (Int)), ())))))⟩
noncomputable def zUja : CSpec := { ins := [(.val (.sl 9 .str) .s)], outs := [((.pair .bool (.pair .bool Ty1)), (.p .s (.p .s (.p (.o .s) (.p .s (.p (.o .s) .s)))))), (.bool, .s)], fn := fun (d : (List (List UInt8)) × Unit) K _ => zvca d.1 (fun r0 r1 => K ((r0, r1, ()) : ((Bool) × (Bool) × (List (Int)) × (Int) × (List (Int)) × Unit) × Bool × Unit) ((()) : Unit)) }
theorem zYoa : Holds Tryd.prog 38 zUja := zsaa (env := zfaa) (inl := inl0) (lp := zkaa) (rs := [(2, some 41), (3, none)]) (code := body Tryd.f38.body) ⟨mixed, envTyOk.ty, envTyOk.eq⟩ zTla zTaa Tryd.func38 zzla (by kernel_rfl) (by kernel_rfl) (by kernel_rfl) (by kernel_rfl) (by kernel_rfl) (by kernel_rfl) fun d R K Kp => by kernel_rfl
noncomputable def zMca : Env := { ty := envTy, eq := envEq, gam := noG, n := Tryd.f40.ntmps }
structure zgca where
 f0 : List UInt8
 f3 : Int
noncomputable def zhca {R : Type} (k_ret : Bool → Option R) (k_exit_0 : (List UInt8) → Option R) (rec : zgca → Option R) (x : zgca) : Option R :=
 let v1 := ((List.length x.f0 : Nat) : Int)
 let v2 := decide (x.f3 < v1)
 cond v2
 (cond (inB x.f3 (List.length x.f0))
 (let v3 := bt x.f0 x.f3
 let v4 := v3 == (95 : Int)
 cond v4
 (let v5 := !true
 cond v5
 (k_ret false)
 (let v6 := IntKind.i64.wrap (x.f3 + (1 : Int))
 rec ⟨x.f0, v6⟩))
 (let v7 := decide (v3 ≥ (97 : Int))
 cond v7
 (let v8 := decide (v3 ≤ (122 : Int))
 cond v8
 (let v9 := !true
 cond v9
 (k_ret false)
 (let v10 := IntKind.i64.wrap (x.f3 + (1 : Int))
 rec ⟨x.f0, v10⟩))
 (let v11 := decide (v3 ≥ (48 : Int))
 cond v11
 (let v12 := decide (v3 ≤ (57 : Int))
 let v13 := !v12
 cond v13
 (k_ret false)
 (let v14 := IntKind.i64.wrap (x.f3 + (1 : Int))
 rec ⟨x.f0, v14⟩))
 (let v15 := !false
 cond v15
 (k_ret false)
 (let v16 := IntKind.i64.wrap (x.f3 + (1 : Int))
 rec ⟨x.f0, v16⟩))))
 (let v17 := decide (v3 ≥ (48 : Int))
 cond v17
 (let v18 := decide (v3 ≤ (57 : Int))
 let v19 := !v18
 cond v19
 (k_ret false)
 (let v20 := IntKind.i64.wrap (x.f3 + (1 : Int))
 rec ⟨x.f0, v20⟩))
 (let v21 := !false
 cond v21
 (k_ret false)
 (let v22 := IntKind.i64.wrap (x.f3 + (1 : Int))
 rec ⟨x.f0, v22⟩))))) none)
 (k_exit_0 x.f0)
noncomputable def zmoa (x : zgca) : St := St.ofList [(0, (.v .str .s x.f0)), (3, (.v (.int .i64) .s x.f3))]
def zoma : Ex → List (Nat × Bool) | .ret => [(2, false)] | .exit 0 => [(0, false)] | _ => []
def zaja : List (Nat × Bool) := [(0, false), (3, false)]
noncomputable def zNia : Pt zgca := .s 0 (sV .str .s) fun y0 => .s 3 (sV (.int .i64) .s) fun y3 => .e ⟨y0, y3⟩
noncomputable def zZja (R : Type) (K : Ex → St → Option R) : (zgca → Option R) → zgca → Option R := zhca (fun e2 => K .ret (St.ofList [(2, (.v .bool .s e2))])) (fun e0 => K (.exit 0) (St.ofList [(0, (.v .str .s e0))]))
noncomputable def zxga : Code := match zrfa 2 (body Tryd.f40.body) with | some c => c | none => .skip
noncomputable def znfa : Loops := fun z i R st K => match z, i with
 | false, 2 => lpE zaja zNia (lpL zZja K) st
 | _, _ => none
theorem zmla : LStep zMca znfa inl0 zxga zaja zoma zmoa zZja := fun R K rec x => by kernel_rfl
theorem zuna : zrha zMca znfa inl0 zxga := zWba zmla (p := zNia) (i := 2) (fun _ _ => ⟨rfl, rfl⟩) (by kernel_rfl) (fun R st K => by kernel_rfl)
theorem zxma : zZaa zMca znfa inl0 (body Tryd.f40.body) := by
 refine zCaa (fun c hc => ?_) (fun c hc => ?_)
 ·rw [show zlea (body Tryd.f40.body) = [zxga] by kernel_rfl] at hc
  simp only [List.mem_cons, List.not_mem_nil, or_false] at hc
  rcases hc with rfl
  ·exact zuna
 ·rw [show zmea zMca (body Tryd.f40.body) = [] by kernel_rfl] at hc; cases hc
noncomputable def zlaa {R : Type} (a0 : List UInt8) (K : Bool → Option R) : Option R :=
 loopN (zhca (fun w1 =>
 K w1) (fun w2 =>
 let v3 := ((List.length w2 : Nat) : Int)
 let v4 := decide (v3 ≥ (1 : Int))
 cond v4
 (let v5 := ((List.length w2 : Nat) : Int)
 let v6 := decide (v5 ≤ (16 : Int))
 K v6)
 (K false))) zyfa ⟨a0, (0 : Int)⟩
noncomputable def zYka : CSpec := { ins := [(.val .str .s)], outs := [(.bool, .s)], fn := fun (d : (List UInt8) × Unit) K _ => zlaa d.1 (fun r0 => K ((r0, ()) : Bool × Unit) ((()) : Unit)) }
theorem zHpa : Holds Tryd.prog 40 zYka := zsaa (env := zMca) (inl := inl0) (lp := znfa) (rs := [(2, none)]) (code := body Tryd.f40.body) ⟨mixed, envTyOk.ty, envTyOk.eq⟩ (fun _ _ _ h => by cases h) zTaa Tryd.func40 zxma (by kernel_rfl) (by kernel_rfl) (by kernel_rfl) (by kernel_rfl) (by kernel_rfl) (by kernel_rfl) fun d R K Kp => by kernel_rfl
noncomputable def zQka : List (FuncId × List FuncId × CSpec) := [(36, [], zOha), (37, [], zWka), (38, [], zUja), (39, [], zuea), (40, [], zYka), (41, [], zsga)]
noncomputable def zwqa : Nat → Bool
 | 27 => true
 | _ => false
noncomputable def zuqa : Nat → Option (List Nat)
 | 0 => some [0]
 | 1 => some [0, 2]
 | 2 => some [0, 2, 4]
 | 3 => some [0, 2, 4, 5, 6]
 | 4 => some [2, 4]
 | 5 => some [0, 2, 4, 5, 6, 7]
 | 6 => some [0, 2, 4, 6]
 | 7 => some [0, 2, 4, 6]
 | 8 => some [0, 2, 4, 5, 6, 7]
 | 9 => some [0, 2, 4, 6]
 | 10 => some [0, 2, 4, 6]
 | 11 => some [0, 2, 4, 5, 6, 7]
 | 12 => some [0, 2, 4, 6]
 | 13 => some [0, 2, 4, 6]
 | 14 => some [0, 2, 4, 5, 6, 7]
 | 15 => some [0, 2, 4, 6]
 | 16 => some [0, 2, 4, 6]
 | 17 => some [0, 2, 4, 5, 6, 7]
 | 18 => some [0, 2, 4]
 | 19 => some [0, 2, 4]
 | 20 => some [0, 2, 4, 5]
 | 21 => some [0, 2, 4, 5, 6, 7]
 | 22 => some [0, 2, 4, 5, 6]
 | 23 => some [0, 2, 4, 7]
 | 24 => some [0, 2, 4]
 | 25 => some [0, 2, 4]
 | 26 => some [0, 2, 4, 5]
 | 27 => some [2, 4, 5, 6]
 | _ => none
noncomputable def znda : Env := { ty := envTy, eq := envEq, gam := (gamL zQka), n := Tryd.f18.ntmps, js := zwqa, lv := zuqa }
theorem zgoa : EnvFn Tryd.prog znda := fun f gs c h => zKba (l := zQka) ⟨zZla, zFpa, zYoa, zJha, zHpa, zOka, trivial⟩ f gs c h
structure zpfa where
 f0 : List (List UInt8)
 f2 : (Int) × It3
 f4 : (Int) × It3
 f5 : Bool
 f6 : Bool
 f7 : Int
noncomputable def zBaa {R : Type} (k_normal : ((Int) × It3) → ((Int) × It3) → Bool → Bool → Option R) (k_ret : ((Int) × It3) → Bool → Option R) (x : zpfa) : Option R :=
 cond (inB (0 : Int) (List.length x.f0))
 (let v1 := List.getD x.f0 (0 : Int).toNat ([] : List UInt8)
 let v2 := v1 == ([98, 121, 116, 101, 115] : List UInt8)
 cond v2
 (let v3 := x.f7 == (2 : Int)
 cond v3
 (cond (inB (1 : Int) (List.length x.f0))
 (let v4 := List.getD x.f0 (1 : Int).toNat ([] : List UInt8)
 zBba v4 fun r5 r6 =>
 k_normal x.f2 ((1 : Int), (r5, x.f4.2.2)) r6 x.f6) none)
 (cond (inB (0 : Int) (List.length x.f0))
 (let v7 := List.getD x.f0 (0 : Int).toNat ([] : List UInt8)
 let v8 := v7 == ([103, 105, 118, 101] : List UInt8)
 cond v8
 (cond (inR (1 : Int) ((List.length x.f0 : Nat) : Int) (List.length x.f0))
 (let v9 := rng x.f0 (1 : Int) ((List.length x.f0 : Nat) : Int)
 zYaa v9 fun r10 r11 =>
 k_normal x.f2 ((2 : Int), (x.f4.2.1, (r10, x.f4.2.2.2))) r11 x.f6) none)
 (cond (inB (0 : Int) (List.length x.f0))
 (let v12 := List.getD x.f0 (0 : Int).toNat ([] : List UInt8)
 let v13 := v12 == ([99, 104, 111, 105, 99, 101] : List UInt8)
 cond v13
 (cond (inR (1 : Int) ((List.length x.f0 : Nat) : Int) (List.length x.f0))
 (let v14 := rng x.f0 (1 : Int) ((List.length x.f0 : Nat) : Int)
 zvca v14 fun r15 r16 =>
 k_normal x.f2 ((3 : Int), (x.f4.2.1, (x.f4.2.2.1, (r15, x.f4.2.2.2.2)))) r16 x.f6) none)
 (cond (inB (0 : Int) (List.length x.f0))
 (let v17 := List.getD x.f0 (0 : Int).toNat ([] : List UInt8)
 let v18 := v17 == ([111, 112, 101, 110] : List UInt8)
 cond v18
 (let v19 := x.f7 == (2 : Int)
 cond v19
 (cond (inB (1 : Int) (List.length x.f0))
 (let v20 := List.getD x.f0 (1 : Int).toNat ([] : List UInt8)
 zaaa v20 fun r21 r22 =>
 k_normal x.f2 ((4 : Int), (x.f4.2.1, (x.f4.2.2.1, (x.f4.2.2.2.1, (x.f4.2.2.2.2.1, (x.f4.2.2.2.2.2.1, (r21, x.f4.2.2.2.2.2.2.2))))))) r22 x.f6) none)
 (cond (inB (0 : Int) (List.length x.f0))
 (let v23 := List.getD x.f0 (0 : Int).toNat ([] : List UInt8)
 let v24 := v23 == ([99, 97, 108, 108] : List UInt8)
 cond v24
 (let v25 := decide (x.f7 ≥ (3 : Int))
 cond v25
 (cond (inB (1 : Int) (List.length x.f0))
 (let v26 := List.getD x.f0 (1 : Int).toNat ([] : List UInt8)
 zlaa v26 fun r27 =>
 cond r27
 (cond (inB (1 : Int) (List.length x.f0))
 (let v28 := List.getD x.f0 (1 : Int).toNat ([] : List UInt8)
 cond (inB (2 : Int) (List.length x.f0))
 (let v29 := List.getD x.f0 (2 : Int).toNat ([] : List UInt8)
 zaaa v29 fun r30 r31 =>
 cond (inR (3 : Int) ((List.length x.f0 : Nat) : Int) (List.length x.f0))
 (let v32 := rng x.f0 (3 : Int) ((List.length x.f0 : Nat) : Int)
 zPaa v32 fun r33 r34 =>
 k_normal x.f2 ((5 : Int), (x.f4.2.1, (x.f4.2.2.1, (x.f4.2.2.2.1, (v28, (r33, (r30, x.f4.2.2.2.2.2.2.2))))))) r31 r34) none) none) none)
 (cond (inB (0 : Int) (List.length x.f0))
 (let v35 := List.getD x.f0 (0 : Int).toNat ([] : List UInt8)
 let v36 := v35 == ([114, 101, 97, 100] : List UInt8)
 cond v36
 (let v37 := x.f7 == (2 : Int)
 cond v37
 (cond (inB (1 : Int) (List.length x.f0))
 (let v38 := List.getD x.f0 (1 : Int).toNat ([] : List UInt8)
 zlaa v38 fun r39 =>
 cond r39
 (cond (inB (1 : Int) (List.length x.f0))
 (let v40 := List.getD x.f0 (1 : Int).toNat ([] : List UInt8)
 k_normal x.f2 ((6 : Int), (x.f4.2.1, (x.f4.2.2.1, (x.f4.2.2.2.1, (v40, x.f4.2.2.2.2.2))))) x.f5 x.f6) none)
 (cond (inB (0 : Int) (List.length x.f0))
 (let v41 := List.getD x.f0 (0 : Int).toNat ([] : List UInt8)
 let v42 := v41 == ([112, 101, 101, 107] : List UInt8)
 cond v42
 (let v43 := x.f7 == (3 : Int)
 cond v43
 (cond (inB (1 : Int) (List.length x.f0))
 (let v44 := List.getD x.f0 (1 : Int).toNat ([] : List UInt8)
 zaaa v44 fun r45 r46 =>
 cond (inB (2 : Int) (List.length x.f0))
 (let v47 := List.getD x.f0 (2 : Int).toNat ([] : List UInt8)
 zaaa v47 fun r48 r49 =>
 k_normal x.f2 ((7 : Int), (x.f4.2.1, (x.f4.2.2.1, (x.f4.2.2.2.1, (x.f4.2.2.2.2.1, (x.f4.2.2.2.2.2.1, (x.f4.2.2.2.2.2.2.1, (r45, (r48, x.f4.2.2.2.2.2.2.2.2.2))))))))) r46 r49) none) none)
 (k_ret x.f4 false))
 (k_ret x.f4 false)) none)) none)
 (cond (inB (0 : Int) (List.length x.f0))
 (let v50 := List.getD x.f0 (0 : Int).toNat ([] : List UInt8)
 let v51 := v50 == ([112, 101, 101, 107] : List UInt8)
 cond v51
 (let v52 := x.f7 == (3 : Int)
 cond v52
 (cond (inB (1 : Int) (List.length x.f0))
 (let v53 := List.getD x.f0 (1 : Int).toNat ([] : List UInt8)
 zaaa v53 fun r54 r55 =>
 cond (inB (2 : Int) (List.length x.f0))
 (let v56 := List.getD x.f0 (2 : Int).toNat ([] : List UInt8)
 zaaa v56 fun r57 r58 =>
 k_normal x.f2 ((7 : Int), (x.f4.2.1, (x.f4.2.2.1, (x.f4.2.2.2.1, (x.f4.2.2.2.2.1, (x.f4.2.2.2.2.2.1, (x.f4.2.2.2.2.2.2.1, (r54, (r57, x.f4.2.2.2.2.2.2.2.2.2))))))))) r55 r58) none) none)
 (k_ret x.f4 false))
 (k_ret x.f4 false)) none))
 (cond (inB (0 : Int) (List.length x.f0))
 (let v59 := List.getD x.f0 (0 : Int).toNat ([] : List UInt8)
 let v60 := v59 == ([112, 101, 101, 107] : List UInt8)
 cond v60
 (let v61 := x.f7 == (3 : Int)
 cond v61
 (cond (inB (1 : Int) (List.length x.f0))
 (let v62 := List.getD x.f0 (1 : Int).toNat ([] : List UInt8)
 zaaa v62 fun r63 r64 =>
 cond (inB (2 : Int) (List.length x.f0))
 (let v65 := List.getD x.f0 (2 : Int).toNat ([] : List UInt8)
 zaaa v65 fun r66 r67 =>
 k_normal x.f2 ((7 : Int), (x.f4.2.1, (x.f4.2.2.1, (x.f4.2.2.2.1, (x.f4.2.2.2.2.1, (x.f4.2.2.2.2.2.1, (x.f4.2.2.2.2.2.2.1, (r63, (r66, x.f4.2.2.2.2.2.2.2.2.2))))))))) r64 r67) none) none)
 (k_ret x.f4 false))
 (k_ret x.f4 false)) none)) none)) none)
 (cond (inB (0 : Int) (List.length x.f0))
 (let v68 := List.getD x.f0 (0 : Int).toNat ([] : List UInt8)
 let v69 := v68 == ([114, 101, 97, 100] : List UInt8)
 cond v69
 (let v70 := x.f7 == (2 : Int)
 cond v70
 (cond (inB (1 : Int) (List.length x.f0))
 (let v71 := List.getD x.f0 (1 : Int).toNat ([] : List UInt8)
 zlaa v71 fun r72 =>
 cond r72
 (cond (inB (1 : Int) (List.length x.f0))
 (let v73 := List.getD x.f0 (1 : Int).toNat ([] : List UInt8)
 k_normal x.f2 ((6 : Int), (x.f4.2.1, (x.f4.2.2.1, (x.f4.2.2.2.1, (v73, x.f4.2.2.2.2.2))))) x.f5 x.f6) none)
 (cond (inB (0 : Int) (List.length x.f0))
 (let v74 := List.getD x.f0 (0 : Int).toNat ([] : List UInt8)
 let v75 := v74 == ([112, 101, 101, 107] : List UInt8)
 cond v75
 (let v76 := x.f7 == (3 : Int)
 cond v76
 (cond (inB (1 : Int) (List.length x.f0))
 (let v77 := List.getD x.f0 (1 : Int).toNat ([] : List UInt8)
 zaaa v77 fun r78 r79 =>
 cond (inB (2 : Int) (List.length x.f0))
 (let v80 := List.getD x.f0 (2 : Int).toNat ([] : List UInt8)
 zaaa v80 fun r81 r82 =>
 k_normal x.f2 ((7 : Int), (x.f4.2.1, (x.f4.2.2.1, (x.f4.2.2.2.1, (x.f4.2.2.2.2.1, (x.f4.2.2.2.2.2.1, (x.f4.2.2.2.2.2.2.1, (r78, (r81, x.f4.2.2.2.2.2.2.2.2.2))))))))) r79 r82) none) none)
 (k_ret x.f4 false))
 (k_ret x.f4 false)) none)) none)
 (cond (inB (0 : Int) (List.length x.f0))
 (let v83 := List.getD x.f0 (0 : Int).toNat ([] : List UInt8)
 let v84 := v83 == ([112, 101, 101, 107] : List UInt8)
 cond v84
 (let v85 := x.f7 == (3 : Int)
 cond v85
 (cond (inB (1 : Int) (List.length x.f0))
 (let v86 := List.getD x.f0 (1 : Int).toNat ([] : List UInt8)
 zaaa v86 fun r87 r88 =>
 cond (inB (2 : Int) (List.length x.f0))
 (let v89 := List.getD x.f0 (2 : Int).toNat ([] : List UInt8)
 zaaa v89 fun r90 r91 =>
 k_normal x.f2 ((7 : Int), (x.f4.2.1, (x.f4.2.2.1, (x.f4.2.2.2.1, (x.f4.2.2.2.2.1, (x.f4.2.2.2.2.2.1, (x.f4.2.2.2.2.2.2.1, (r87, (r90, x.f4.2.2.2.2.2.2.2.2.2))))))))) r88 r91) none) none)
 (k_ret x.f4 false))
 (k_ret x.f4 false)) none))
 (cond (inB (0 : Int) (List.length x.f0))
 (let v92 := List.getD x.f0 (0 : Int).toNat ([] : List UInt8)
 let v93 := v92 == ([112, 101, 101, 107] : List UInt8)
 cond v93
 (let v94 := x.f7 == (3 : Int)
 cond v94
 (cond (inB (1 : Int) (List.length x.f0))
 (let v95 := List.getD x.f0 (1 : Int).toNat ([] : List UInt8)
 zaaa v95 fun r96 r97 =>
 cond (inB (2 : Int) (List.length x.f0))
 (let v98 := List.getD x.f0 (2 : Int).toNat ([] : List UInt8)
 zaaa v98 fun r99 r100 =>
 k_normal x.f2 ((7 : Int), (x.f4.2.1, (x.f4.2.2.1, (x.f4.2.2.2.1, (x.f4.2.2.2.2.1, (x.f4.2.2.2.2.2.1, (x.f4.2.2.2.2.2.2.1, (r96, (r99, x.f4.2.2.2.2.2.2.2.2.2))))))))) r97 r100) none) none)
 (k_ret x.f4 false))
 (k_ret x.f4 false)) none)) none))
 (cond (inB (0 : Int) (List.length x.f0))
 (let v101 := List.getD x.f0 (0 : Int).toNat ([] : List UInt8)
 let v102 := v101 == ([114, 101, 97, 100] : List UInt8)
 cond v102
 (let v103 := x.f7 == (2 : Int)
 cond v103
 (cond (inB (1 : Int) (List.length x.f0))
 (let v104 := List.getD x.f0 (1 : Int).toNat ([] : List UInt8)
 zlaa v104 fun r105 =>
 cond r105
 (cond (inB (1 : Int) (List.length x.f0))
 (let v106 := List.getD x.f0 (1 : Int).toNat ([] : List UInt8)
 k_normal x.f2 ((6 : Int), (x.f4.2.1, (x.f4.2.2.1, (x.f4.2.2.2.1, (v106, x.f4.2.2.2.2.2))))) x.f5 x.f6) none)
 (cond (inB (0 : Int) (List.length x.f0))
 (let v107 := List.getD x.f0 (0 : Int).toNat ([] : List UInt8)
 let v108 := v107 == ([112, 101, 101, 107] : List UInt8)
 cond v108
 (let v109 := x.f7 == (3 : Int)
 cond v109
 (cond (inB (1 : Int) (List.length x.f0))
 (let v110 := List.getD x.f0 (1 : Int).toNat ([] : List UInt8)
 zaaa v110 fun r111 r112 =>
 cond (inB (2 : Int) (List.length x.f0))
 (let v113 := List.getD x.f0 (2 : Int).toNat ([] : List UInt8)
 zaaa v113 fun r114 r115 =>
 k_normal x.f2 ((7 : Int), (x.f4.2.1, (x.f4.2.2.1, (x.f4.2.2.2.1, (x.f4.2.2.2.2.1, (x.f4.2.2.2.2.2.1, (x.f4.2.2.2.2.2.2.1, (r111, (r114, x.f4.2.2.2.2.2.2.2.2.2))))))))) r112 r115) none) none)
 (k_ret x.f4 false))
 (k_ret x.f4 false)) none)) none)
 (cond (inB (0 : Int) (List.length x.f0))
 (let v116 := List.getD x.f0 (0 : Int).toNat ([] : List UInt8)
 let v117 := v116 == ([112, 101, 101, 107] : List UInt8)
 cond v117
 (let v118 := x.f7 == (3 : Int)
 cond v118
 (cond (inB (1 : Int) (List.length x.f0))
 (let v119 := List.getD x.f0 (1 : Int).toNat ([] : List UInt8)
 zaaa v119 fun r120 r121 =>
 cond (inB (2 : Int) (List.length x.f0))
 (let v122 := List.getD x.f0 (2 : Int).toNat ([] : List UInt8)
 zaaa v122 fun r123 r124 =>
 k_normal x.f2 ((7 : Int), (x.f4.2.1, (x.f4.2.2.1, (x.f4.2.2.2.1, (x.f4.2.2.2.2.1, (x.f4.2.2.2.2.2.1, (x.f4.2.2.2.2.2.2.1, (r120, (r123, x.f4.2.2.2.2.2.2.2.2.2))))))))) r121 r124) none) none)
 (k_ret x.f4 false))
 (k_ret x.f4 false)) none))
 (cond (inB (0 : Int) (List.length x.f0))
 (let v125 := List.getD x.f0 (0 : Int).toNat ([] : List UInt8)
 let v126 := v125 == ([112, 101, 101, 107] : List UInt8)
 cond v126
 (let v127 := x.f7 == (3 : Int)
 cond v127
 (cond (inB (1 : Int) (List.length x.f0))
 (let v128 := List.getD x.f0 (1 : Int).toNat ([] : List UInt8)
 zaaa v128 fun r129 r130 =>
 cond (inB (2 : Int) (List.length x.f0))
 (let v131 := List.getD x.f0 (2 : Int).toNat ([] : List UInt8)
 zaaa v131 fun r132 r133 =>
 k_normal x.f2 ((7 : Int), (x.f4.2.1, (x.f4.2.2.1, (x.f4.2.2.2.1, (x.f4.2.2.2.2.1, (x.f4.2.2.2.2.2.1, (x.f4.2.2.2.2.2.2.1, (r129, (r132, x.f4.2.2.2.2.2.2.2.2.2))))))))) r130 r133) none) none)
 (k_ret x.f4 false))
 (k_ret x.f4 false)) none)) none)) none))
 (cond (inB (0 : Int) (List.length x.f0))
 (let v134 := List.getD x.f0 (0 : Int).toNat ([] : List UInt8)
 let v135 := v134 == ([99, 97, 108, 108] : List UInt8)
 cond v135
 (let v136 := decide (x.f7 ≥ (3 : Int))
 cond v136
 (cond (inB (1 : Int) (List.length x.f0))
 (let v137 := List.getD x.f0 (1 : Int).toNat ([] : List UInt8)
 zlaa v137 fun r138 =>
 cond r138
 (cond (inB (1 : Int) (List.length x.f0))
 (let v139 := List.getD x.f0 (1 : Int).toNat ([] : List UInt8)
 cond (inB (2 : Int) (List.length x.f0))
 (let v140 := List.getD x.f0 (2 : Int).toNat ([] : List UInt8)
 zaaa v140 fun r141 r142 =>
 cond (inR (3 : Int) ((List.length x.f0 : Nat) : Int) (List.length x.f0))
 (let v143 := rng x.f0 (3 : Int) ((List.length x.f0 : Nat) : Int)
 zPaa v143 fun r144 r145 =>
 k_normal x.f2 ((5 : Int), (x.f4.2.1, (x.f4.2.2.1, (x.f4.2.2.2.1, (v139, (r144, (r141, x.f4.2.2.2.2.2.2.2))))))) r142 r145) none) none) none)
 (cond (inB (0 : Int) (List.length x.f0))
 (let v146 := List.getD x.f0 (0 : Int).toNat ([] : List UInt8)
 let v147 := v146 == ([114, 101, 97, 100] : List UInt8)
 cond v147
 (let v148 := x.f7 == (2 : Int)
 cond v148
 (cond (inB (1 : Int) (List.length x.f0))
 (let v149 := List.getD x.f0 (1 : Int).toNat ([] : List UInt8)
 zlaa v149 fun r150 =>
 cond r150
 (cond (inB (1 : Int) (List.length x.f0))
 (let v151 := List.getD x.f0 (1 : Int).toNat ([] : List UInt8)
 k_normal x.f2 ((6 : Int), (x.f4.2.1, (x.f4.2.2.1, (x.f4.2.2.2.1, (v151, x.f4.2.2.2.2.2))))) x.f5 x.f6) none)
 (cond (inB (0 : Int) (List.length x.f0))
 (let v152 := List.getD x.f0 (0 : Int).toNat ([] : List UInt8)
 let v153 := v152 == ([112, 101, 101, 107] : List UInt8)
 cond v153
 (let v154 := x.f7 == (3 : Int)
 cond v154
 (cond (inB (1 : Int) (List.length x.f0))
 (let v155 := List.getD x.f0 (1 : Int).toNat ([] : List UInt8)
 zaaa v155 fun r156 r157 =>
 cond (inB (2 : Int) (List.length x.f0))
 (let v158 := List.getD x.f0 (2 : Int).toNat ([] : List UInt8)
 zaaa v158 fun r159 r160 =>
 k_normal x.f2 ((7 : Int), (x.f4.2.1, (x.f4.2.2.1, (x.f4.2.2.2.1, (x.f4.2.2.2.2.1, (x.f4.2.2.2.2.2.1, (x.f4.2.2.2.2.2.2.1, (r156, (r159, x.f4.2.2.2.2.2.2.2.2.2))))))))) r157 r160) none) none)
 (k_ret x.f4 false))
 (k_ret x.f4 false)) none)) none)
 (cond (inB (0 : Int) (List.length x.f0))
 (let v161 := List.getD x.f0 (0 : Int).toNat ([] : List UInt8)
 let v162 := v161 == ([112, 101, 101, 107] : List UInt8)
 cond v162
 (let v163 := x.f7 == (3 : Int)
 cond v163
 (cond (inB (1 : Int) (List.length x.f0))
 (let v164 := List.getD x.f0 (1 : Int).toNat ([] : List UInt8)
 zaaa v164 fun r165 r166 =>
 cond (inB (2 : Int) (List.length x.f0))
 (let v167 := List.getD x.f0 (2 : Int).toNat ([] : List UInt8)
 zaaa v167 fun r168 r169 =>
 k_normal x.f2 ((7 : Int), (x.f4.2.1, (x.f4.2.2.1, (x.f4.2.2.2.1, (x.f4.2.2.2.2.1, (x.f4.2.2.2.2.2.1, (x.f4.2.2.2.2.2.2.1, (r165, (r168, x.f4.2.2.2.2.2.2.2.2.2))))))))) r166 r169) none) none)
 (k_ret x.f4 false))
 (k_ret x.f4 false)) none))
 (cond (inB (0 : Int) (List.length x.f0))
 (let v170 := List.getD x.f0 (0 : Int).toNat ([] : List UInt8)
 let v171 := v170 == ([112, 101, 101, 107] : List UInt8)
 cond v171
 (let v172 := x.f7 == (3 : Int)
 cond v172
 (cond (inB (1 : Int) (List.length x.f0))
 (let v173 := List.getD x.f0 (1 : Int).toNat ([] : List UInt8)
 zaaa v173 fun r174 r175 =>
 cond (inB (2 : Int) (List.length x.f0))
 (let v176 := List.getD x.f0 (2 : Int).toNat ([] : List UInt8)
 zaaa v176 fun r177 r178 =>
 k_normal x.f2 ((7 : Int), (x.f4.2.1, (x.f4.2.2.1, (x.f4.2.2.2.1, (x.f4.2.2.2.2.1, (x.f4.2.2.2.2.2.1, (x.f4.2.2.2.2.2.2.1, (r174, (r177, x.f4.2.2.2.2.2.2.2.2.2))))))))) r175 r178) none) none)
 (k_ret x.f4 false))
 (k_ret x.f4 false)) none)) none)) none)
 (cond (inB (0 : Int) (List.length x.f0))
 (let v179 := List.getD x.f0 (0 : Int).toNat ([] : List UInt8)
 let v180 := v179 == ([114, 101, 97, 100] : List UInt8)
 cond v180
 (let v181 := x.f7 == (2 : Int)
 cond v181
 (cond (inB (1 : Int) (List.length x.f0))
 (let v182 := List.getD x.f0 (1 : Int).toNat ([] : List UInt8)
 zlaa v182 fun r183 =>
 cond r183
 (cond (inB (1 : Int) (List.length x.f0))
 (let v184 := List.getD x.f0 (1 : Int).toNat ([] : List UInt8)
 k_normal x.f2 ((6 : Int), (x.f4.2.1, (x.f4.2.2.1, (x.f4.2.2.2.1, (v184, x.f4.2.2.2.2.2))))) x.f5 x.f6) none)
 (cond (inB (0 : Int) (List.length x.f0))
 (let v185 := List.getD x.f0 (0 : Int).toNat ([] : List UInt8)
 let v186 := v185 == ([112, 101, 101, 107] : List UInt8)
 cond v186
 (let v187 := x.f7 == (3 : Int)
 cond v187
 (cond (inB (1 : Int) (List.length x.f0))
 (let v188 := List.getD x.f0 (1 : Int).toNat ([] : List UInt8)
 zaaa v188 fun r189 r190 =>
 cond (inB (2 : Int) (List.length x.f0))
 (let v191 := List.getD x.f0 (2 : Int).toNat ([] : List UInt8)
 zaaa v191 fun r192 r193 =>
 k_normal x.f2 ((7 : Int), (x.f4.2.1, (x.f4.2.2.1, (x.f4.2.2.2.1, (x.f4.2.2.2.2.1, (x.f4.2.2.2.2.2.1, (x.f4.2.2.2.2.2.2.1, (r189, (r192, x.f4.2.2.2.2.2.2.2.2.2))))))))) r190 r193) none) none)
 (k_ret x.f4 false))
 (k_ret x.f4 false)) none)) none)
 (cond (inB (0 : Int) (List.length x.f0))
 (let v194 := List.getD x.f0 (0 : Int).toNat ([] : List UInt8)
 let v195 := v194 == ([112, 101, 101, 107] : List UInt8)
 cond v195
 (let v196 := x.f7 == (3 : Int)
 cond v196
 (cond (inB (1 : Int) (List.length x.f0))
 (let v197 := List.getD x.f0 (1 : Int).toNat ([] : List UInt8)
 zaaa v197 fun r198 r199 =>
 cond (inB (2 : Int) (List.length x.f0))
 (let v200 := List.getD x.f0 (2 : Int).toNat ([] : List UInt8)
 zaaa v200 fun r201 r202 =>
 k_normal x.f2 ((7 : Int), (x.f4.2.1, (x.f4.2.2.1, (x.f4.2.2.2.1, (x.f4.2.2.2.2.1, (x.f4.2.2.2.2.2.1, (x.f4.2.2.2.2.2.2.1, (r198, (r201, x.f4.2.2.2.2.2.2.2.2.2))))))))) r199 r202) none) none)
 (k_ret x.f4 false))
 (k_ret x.f4 false)) none))
 (cond (inB (0 : Int) (List.length x.f0))
 (let v203 := List.getD x.f0 (0 : Int).toNat ([] : List UInt8)
 let v204 := v203 == ([112, 101, 101, 107] : List UInt8)
 cond v204
 (let v205 := x.f7 == (3 : Int)
 cond v205
 (cond (inB (1 : Int) (List.length x.f0))
 (let v206 := List.getD x.f0 (1 : Int).toNat ([] : List UInt8)
 zaaa v206 fun r207 r208 =>
 cond (inB (2 : Int) (List.length x.f0))
 (let v209 := List.getD x.f0 (2 : Int).toNat ([] : List UInt8)
 zaaa v209 fun r210 r211 =>
 k_normal x.f2 ((7 : Int), (x.f4.2.1, (x.f4.2.2.1, (x.f4.2.2.2.1, (x.f4.2.2.2.2.1, (x.f4.2.2.2.2.2.1, (x.f4.2.2.2.2.2.2.1, (r207, (r210, x.f4.2.2.2.2.2.2.2.2.2))))))))) r208 r211) none) none)
 (k_ret x.f4 false))
 (k_ret x.f4 false)) none)) none))
 (cond (inB (0 : Int) (List.length x.f0))
 (let v212 := List.getD x.f0 (0 : Int).toNat ([] : List UInt8)
 let v213 := v212 == ([114, 101, 97, 100] : List UInt8)
 cond v213
 (let v214 := x.f7 == (2 : Int)
 cond v214
 (cond (inB (1 : Int) (List.length x.f0))
 (let v215 := List.getD x.f0 (1 : Int).toNat ([] : List UInt8)
 zlaa v215 fun r216 =>
 cond r216
 (cond (inB (1 : Int) (List.length x.f0))
 (let v217 := List.getD x.f0 (1 : Int).toNat ([] : List UInt8)
 k_normal x.f2 ((6 : Int), (x.f4.2.1, (x.f4.2.2.1, (x.f4.2.2.2.1, (v217, x.f4.2.2.2.2.2))))) x.f5 x.f6) none)
 (cond (inB (0 : Int) (List.length x.f0))
 (let v218 := List.getD x.f0 (0 : Int).toNat ([] : List UInt8)
 let v219 := v218 == ([112, 101, 101, 107] : List UInt8)
 cond v219
 (let v220 := x.f7 == (3 : Int)
 cond v220
 (cond (inB (1 : Int) (List.length x.f0))
 (let v221 := List.getD x.f0 (1 : Int).toNat ([] : List UInt8)
 zaaa v221 fun r222 r223 =>
 cond (inB (2 : Int) (List.length x.f0))
 (let v224 := List.getD x.f0 (2 : Int).toNat ([] : List UInt8)
 zaaa v224 fun r225 r226 =>
 k_normal x.f2 ((7 : Int), (x.f4.2.1, (x.f4.2.2.1, (x.f4.2.2.2.1, (x.f4.2.2.2.2.1, (x.f4.2.2.2.2.2.1, (x.f4.2.2.2.2.2.2.1, (r222, (r225, x.f4.2.2.2.2.2.2.2.2.2))))))))) r223 r226) none) none)
 (k_ret x.f4 false))
 (k_ret x.f4 false)) none)) none)
 (cond (inB (0 : Int) (List.length x.f0))
 (let v227 := List.getD x.f0 (0 : Int).toNat ([] : List UInt8)
 let v228 := v227 == ([112, 101, 101, 107] : List UInt8)
 cond v228
 (let v229 := x.f7 == (3 : Int)
 cond v229
 (cond (inB (1 : Int) (List.length x.f0))
 (let v230 := List.getD x.f0 (1 : Int).toNat ([] : List UInt8)
 zaaa v230 fun r231 r232 =>
 cond (inB (2 : Int) (List.length x.f0))
 (let v233 := List.getD x.f0 (2 : Int).toNat ([] : List UInt8)
 zaaa v233 fun r234 r235 =>
 k_normal x.f2 ((7 : Int), (x.f4.2.1, (x.f4.2.2.1, (x.f4.2.2.2.1, (x.f4.2.2.2.2.1, (x.f4.2.2.2.2.2.1, (x.f4.2.2.2.2.2.2.1, (r231, (r234, x.f4.2.2.2.2.2.2.2.2.2))))))))) r232 r235) none) none)
 (k_ret x.f4 false))
 (k_ret x.f4 false)) none))
 (cond (inB (0 : Int) (List.length x.f0))
 (let v236 := List.getD x.f0 (0 : Int).toNat ([] : List UInt8)
 let v237 := v236 == ([112, 101, 101, 107] : List UInt8)
 cond v237
 (let v238 := x.f7 == (3 : Int)
 cond v238
 (cond (inB (1 : Int) (List.length x.f0))
 (let v239 := List.getD x.f0 (1 : Int).toNat ([] : List UInt8)
 zaaa v239 fun r240 r241 =>
 cond (inB (2 : Int) (List.length x.f0))
 (let v242 := List.getD x.f0 (2 : Int).toNat ([] : List UInt8)
 zaaa v242 fun r243 r244 =>
 k_normal x.f2 ((7 : Int), (x.f4.2.1, (x.f4.2.2.1, (x.f4.2.2.2.1, (x.f4.2.2.2.2.1, (x.f4.2.2.2.2.2.1, (x.f4.2.2.2.2.2.2.1, (r240, (r243, x.f4.2.2.2.2.2.2.2.2.2))))))))) r241 r244) none) none)
 (k_ret x.f4 false))
 (k_ret x.f4 false)) none)) none)) none)) none)) none)) none))
 (cond (inB (0 : Int) (List.length x.f0))
 (let v245 := List.getD x.f0 (0 : Int).toNat ([] : List UInt8)
 let v246 := v245 == ([103, 105, 118, 101] : List UInt8)
 cond v246
 (cond (inR (1 : Int) ((List.length x.f0 : Nat) : Int) (List.length x.f0))
 (let v247 := rng x.f0 (1 : Int) ((List.length x.f0 : Nat) : Int)
 zYaa v247 fun r248 r249 =>
 k_normal x.f2 ((2 : Int), (x.f4.2.1, (r248, x.f4.2.2.2))) r249 x.f6) none)
 (cond (inB (0 : Int) (List.length x.f0))
 (let v250 := List.getD x.f0 (0 : Int).toNat ([] : List UInt8)
 let v251 := v250 == ([99, 104, 111, 105, 99, 101] : List UInt8)
 cond v251
 (cond (inR (1 : Int) ((List.length x.f0 : Nat) : Int) (List.length x.f0))
 (let v252 := rng x.f0 (1 : Int) ((List.length x.f0 : Nat) : Int)
 zvca v252 fun r253 r254 =>
 k_normal x.f2 ((3 : Int), (x.f4.2.1, (x.f4.2.2.1, (r253, x.f4.2.2.2.2)))) r254 x.f6) none)
 (cond (inB (0 : Int) (List.length x.f0))
 (let v255 := List.getD x.f0 (0 : Int).toNat ([] : List UInt8)
 let v256 := v255 == ([111, 112, 101, 110] : List UInt8)
 cond v256
 (let v257 := x.f7 == (2 : Int)
 cond v257
 (cond (inB (1 : Int) (List.length x.f0))
 (let v258 := List.getD x.f0 (1 : Int).toNat ([] : List UInt8)
 zaaa v258 fun r259 r260 =>
 k_normal x.f2 ((4 : Int), (x.f4.2.1, (x.f4.2.2.1, (x.f4.2.2.2.1, (x.f4.2.2.2.2.1, (x.f4.2.2.2.2.2.1, (r259, x.f4.2.2.2.2.2.2.2))))))) r260 x.f6) none)
 (cond (inB (0 : Int) (List.length x.f0))
 (let v261 := List.getD x.f0 (0 : Int).toNat ([] : List UInt8)
 let v262 := v261 == ([99, 97, 108, 108] : List UInt8)
 cond v262
 (let v263 := decide (x.f7 ≥ (3 : Int))
 cond v263
 (cond (inB (1 : Int) (List.length x.f0))
 (let v264 := List.getD x.f0 (1 : Int).toNat ([] : List UInt8)
 zlaa v264 fun r265 =>
 cond r265
 (cond (inB (1 : Int) (List.length x.f0))
 (let v266 := List.getD x.f0 (1 : Int).toNat ([] : List UInt8)
 cond (inB (2 : Int) (List.length x.f0))
 (let v267 := List.getD x.f0 (2 : Int).toNat ([] : List UInt8)
 zaaa v267 fun r268 r269 =>
 cond (inR (3 : Int) ((List.length x.f0 : Nat) : Int) (List.length x.f0))
 (let v270 := rng x.f0 (3 : Int) ((List.length x.f0 : Nat) : Int)
 zPaa v270 fun r271 r272 =>
 k_normal x.f2 ((5 : Int), (x.f4.2.1, (x.f4.2.2.1, (x.f4.2.2.2.1, (v266, (r271, (r268, x.f4.2.2.2.2.2.2.2))))))) r269 r272) none) none) none)
 (cond (inB (0 : Int) (List.length x.f0))
 (let v273 := List.getD x.f0 (0 : Int).toNat ([] : List UInt8)
 let v274 := v273 == ([114, 101, 97, 100] : List UInt8)
 cond v274
 (let v275 := x.f7 == (2 : Int)
 cond v275
 (cond (inB (1 : Int) (List.length x.f0))
 (let v276 := List.getD x.f0 (1 : Int).toNat ([] : List UInt8)
 zlaa v276 fun r277 =>
 cond r277
 (cond (inB (1 : Int) (List.length x.f0))
 (let v278 := List.getD x.f0 (1 : Int).toNat ([] : List UInt8)
 k_normal x.f2 ((6 : Int), (x.f4.2.1, (x.f4.2.2.1, (x.f4.2.2.2.1, (v278, x.f4.2.2.2.2.2))))) x.f5 x.f6) none)
 (cond (inB (0 : Int) (List.length x.f0))
 (let v279 := List.getD x.f0 (0 : Int).toNat ([] : List UInt8)
 let v280 := v279 == ([112, 101, 101, 107] : List UInt8)
 cond v280
 (let v281 := x.f7 == (3 : Int)
 cond v281
 (cond (inB (1 : Int) (List.length x.f0))
 (let v282 := List.getD x.f0 (1 : Int).toNat ([] : List UInt8)
 zaaa v282 fun r283 r284 =>
 cond (inB (2 : Int) (List.length x.f0))
 (let v285 := List.getD x.f0 (2 : Int).toNat ([] : List UInt8)
 zaaa v285 fun r286 r287 =>
 k_normal x.f2 ((7 : Int), (x.f4.2.1, (x.f4.2.2.1, (x.f4.2.2.2.1, (x.f4.2.2.2.2.1, (x.f4.2.2.2.2.2.1, (x.f4.2.2.2.2.2.2.1, (r283, (r286, x.f4.2.2.2.2.2.2.2.2.2))))))))) r284 r287) none) none)
 (k_ret x.f4 false))
 (k_ret x.f4 false)) none)) none)
 (cond (inB (0 : Int) (List.length x.f0))
 (let v288 := List.getD x.f0 (0 : Int).toNat ([] : List UInt8)
 let v289 := v288 == ([112, 101, 101, 107] : List UInt8)
 cond v289
 (let v290 := x.f7 == (3 : Int)
 cond v290
 (cond (inB (1 : Int) (List.length x.f0))
 (let v291 := List.getD x.f0 (1 : Int).toNat ([] : List UInt8)
 zaaa v291 fun r292 r293 =>
 cond (inB (2 : Int) (List.length x.f0))
 (let v294 := List.getD x.f0 (2 : Int).toNat ([] : List UInt8)
 zaaa v294 fun r295 r296 =>
 k_normal x.f2 ((7 : Int), (x.f4.2.1, (x.f4.2.2.1, (x.f4.2.2.2.1, (x.f4.2.2.2.2.1, (x.f4.2.2.2.2.2.1, (x.f4.2.2.2.2.2.2.1, (r292, (r295, x.f4.2.2.2.2.2.2.2.2.2))))))))) r293 r296) none) none)
 (k_ret x.f4 false))
 (k_ret x.f4 false)) none))
 (cond (inB (0 : Int) (List.length x.f0))
 (let v297 := List.getD x.f0 (0 : Int).toNat ([] : List UInt8)
 let v298 := v297 == ([112, 101, 101, 107] : List UInt8)
 cond v298
 (let v299 := x.f7 == (3 : Int)
 cond v299
 (cond (inB (1 : Int) (List.length x.f0))
 (let v300 := List.getD x.f0 (1 : Int).toNat ([] : List UInt8)
 zaaa v300 fun r301 r302 =>
 cond (inB (2 : Int) (List.length x.f0))
 (let v303 := List.getD x.f0 (2 : Int).toNat ([] : List UInt8)
 zaaa v303 fun r304 r305 =>
 k_normal x.f2 ((7 : Int), (x.f4.2.1, (x.f4.2.2.1, (x.f4.2.2.2.1, (x.f4.2.2.2.2.1, (x.f4.2.2.2.2.2.1, (x.f4.2.2.2.2.2.2.1, (r301, (r304, x.f4.2.2.2.2.2.2.2.2.2))))))))) r302 r305) none) none)
 (k_ret x.f4 false))
 (k_ret x.f4 false)) none)) none)) none)
 (cond (inB (0 : Int) (List.length x.f0))
 (let v306 := List.getD x.f0 (0 : Int).toNat ([] : List UInt8)
 let v307 := v306 == ([114, 101, 97, 100] : List UInt8)
 cond v307
 (let v308 := x.f7 == (2 : Int)
 cond v308
 (cond (inB (1 : Int) (List.length x.f0))
 (let v309 := List.getD x.f0 (1 : Int).toNat ([] : List UInt8)
 zlaa v309 fun r310 =>
 cond r310
 (cond (inB (1 : Int) (List.length x.f0))
 (let v311 := List.getD x.f0 (1 : Int).toNat ([] : List UInt8)
 k_normal x.f2 ((6 : Int), (x.f4.2.1, (x.f4.2.2.1, (x.f4.2.2.2.1, (v311, x.f4.2.2.2.2.2))))) x.f5 x.f6) none)
 (cond (inB (0 : Int) (List.length x.f0))
 (let v312 := List.getD x.f0 (0 : Int).toNat ([] : List UInt8)
 let v313 := v312 == ([112, 101, 101, 107] : List UInt8)
 cond v313
 (let v314 := x.f7 == (3 : Int)
 cond v314
 (cond (inB (1 : Int) (List.length x.f0))
 (let v315 := List.getD x.f0 (1 : Int).toNat ([] : List UInt8)
 zaaa v315 fun r316 r317 =>
 cond (inB (2 : Int) (List.length x.f0))
 (let v318 := List.getD x.f0 (2 : Int).toNat ([] : List UInt8)
 zaaa v318 fun r319 r320 =>
 k_normal x.f2 ((7 : Int), (x.f4.2.1, (x.f4.2.2.1, (x.f4.2.2.2.1, (x.f4.2.2.2.2.1, (x.f4.2.2.2.2.2.1, (x.f4.2.2.2.2.2.2.1, (r316, (r319, x.f4.2.2.2.2.2.2.2.2.2))))))))) r317 r320) none) none)
 (k_ret x.f4 false))
 (k_ret x.f4 false)) none)) none)
 (cond (inB (0 : Int) (List.length x.f0))
 (let v321 := List.getD x.f0 (0 : Int).toNat ([] : List UInt8)
 let v322 := v321 == ([112, 101, 101, 107] : List UInt8)
 cond v322
 (let v323 := x.f7 == (3 : Int)
 cond v323
 (cond (inB (1 : Int) (List.length x.f0))
 (let v324 := List.getD x.f0 (1 : Int).toNat ([] : List UInt8)
 zaaa v324 fun r325 r326 =>
 cond (inB (2 : Int) (List.length x.f0))
 (let v327 := List.getD x.f0 (2 : Int).toNat ([] : List UInt8)
 zaaa v327 fun r328 r329 =>
 k_normal x.f2 ((7 : Int), (x.f4.2.1, (x.f4.2.2.1, (x.f4.2.2.2.1, (x.f4.2.2.2.2.1, (x.f4.2.2.2.2.2.1, (x.f4.2.2.2.2.2.2.1, (r325, (r328, x.f4.2.2.2.2.2.2.2.2.2))))))))) r326 r329) none) none)
 (k_ret x.f4 false))
 (k_ret x.f4 false)) none))
 (cond (inB (0 : Int) (List.length x.f0))
 (let v330 := List.getD x.f0 (0 : Int).toNat ([] : List UInt8)
 let v331 := v330 == ([112, 101, 101, 107] : List UInt8)
 cond v331
 (let v332 := x.f7 == (3 : Int)
 cond v332
 (cond (inB (1 : Int) (List.length x.f0))
 (let v333 := List.getD x.f0 (1 : Int).toNat ([] : List UInt8)
 zaaa v333 fun r334 r335 =>
 cond (inB (2 : Int) (List.length x.f0))
 (let v336 := List.getD x.f0 (2 : Int).toNat ([] : List UInt8)
 zaaa v336 fun r337 r338 =>
 k_normal x.f2 ((7 : Int), (x.f4.2.1, (x.f4.2.2.1, (x.f4.2.2.2.1, (x.f4.2.2.2.2.1, (x.f4.2.2.2.2.2.1, (x.f4.2.2.2.2.2.2.1, (r334, (r337, x.f4.2.2.2.2.2.2.2.2.2))))))))) r335 r338) none) none)
 (k_ret x.f4 false))
 (k_ret x.f4 false)) none)) none))
 (cond (inB (0 : Int) (List.length x.f0))
 (let v339 := List.getD x.f0 (0 : Int).toNat ([] : List UInt8)
 let v340 := v339 == ([114, 101, 97, 100] : List UInt8)
 cond v340
 (let v341 := x.f7 == (2 : Int)
 cond v341
 (cond (inB (1 : Int) (List.length x.f0))
 (let v342 := List.getD x.f0 (1 : Int).toNat ([] : List UInt8)
 zlaa v342 fun r343 =>
 cond r343
 (cond (inB (1 : Int) (List.length x.f0))
 (let v344 := List.getD x.f0 (1 : Int).toNat ([] : List UInt8)
 k_normal x.f2 ((6 : Int), (x.f4.2.1, (x.f4.2.2.1, (x.f4.2.2.2.1, (v344, x.f4.2.2.2.2.2))))) x.f5 x.f6) none)
 (cond (inB (0 : Int) (List.length x.f0))
 (let v345 := List.getD x.f0 (0 : Int).toNat ([] : List UInt8)
 let v346 := v345 == ([112, 101, 101, 107] : List UInt8)
 cond v346
 (let v347 := x.f7 == (3 : Int)
 cond v347
 (cond (inB (1 : Int) (List.length x.f0))
 (let v348 := List.getD x.f0 (1 : Int).toNat ([] : List UInt8)
 zaaa v348 fun r349 r350 =>
 cond (inB (2 : Int) (List.length x.f0))
 (let v351 := List.getD x.f0 (2 : Int).toNat ([] : List UInt8)
 zaaa v351 fun r352 r353 =>
 k_normal x.f2 ((7 : Int), (x.f4.2.1, (x.f4.2.2.1, (x.f4.2.2.2.1, (x.f4.2.2.2.2.1, (x.f4.2.2.2.2.2.1, (x.f4.2.2.2.2.2.2.1, (r349, (r352, x.f4.2.2.2.2.2.2.2.2.2))))))))) r350 r353) none) none)
 (k_ret x.f4 false))
 (k_ret x.f4 false)) none)) none)
 (cond (inB (0 : Int) (List.length x.f0))
 (let v354 := List.getD x.f0 (0 : Int).toNat ([] : List UInt8)
 let v355 := v354 == ([112, 101, 101, 107] : List UInt8)
 cond v355
 (let v356 := x.f7 == (3 : Int)
 cond v356
 (cond (inB (1 : Int) (List.length x.f0))
 (let v357 := List.getD x.f0 (1 : Int).toNat ([] : List UInt8)
 zaaa v357 fun r358 r359 =>
 cond (inB (2 : Int) (List.length x.f0))
 (let v360 := List.getD x.f0 (2 : Int).toNat ([] : List UInt8)
 zaaa v360 fun r361 r362 =>
 k_normal x.f2 ((7 : Int), (x.f4.2.1, (x.f4.2.2.1, (x.f4.2.2.2.1, (x.f4.2.2.2.2.1, (x.f4.2.2.2.2.2.1, (x.f4.2.2.2.2.2.2.1, (r358, (r361, x.f4.2.2.2.2.2.2.2.2.2))))))))) r359 r362) none) none)
 (k_ret x.f4 false))
 (k_ret x.f4 false)) none))
 (cond (inB (0 : Int) (List.length x.f0))
 (let v363 := List.getD x.f0 (0 : Int).toNat ([] : List UInt8)
 let v364 := v363 == ([112, 101, 101, 107] : List UInt8)
 cond v364
 (let v365 := x.f7 == (3 : Int)
 cond v365
 (cond (inB (1 : Int) (List.length x.f0))
 (let v366 := List.getD x.f0 (1 : Int).toNat ([] : List UInt8)
 zaaa v366 fun r367 r368 =>
 cond (inB (2 : Int) (List.length x.f0))
 (let v369 := List.getD x.f0 (2 : Int).toNat ([] : List UInt8)
 zaaa v369 fun r370 r371 =>
 k_normal x.f2 ((7 : Int), (x.f4.2.1, (x.f4.2.2.1, (x.f4.2.2.2.1, (x.f4.2.2.2.2.1, (x.f4.2.2.2.2.2.1, (x.f4.2.2.2.2.2.2.1, (r367, (r370, x.f4.2.2.2.2.2.2.2.2.2))))))))) r368 r371) none) none)
 (k_ret x.f4 false))
 (k_ret x.f4 false)) none)) none)) none))
 (cond (inB (0 : Int) (List.length x.f0))
 (let v372 := List.getD x.f0 (0 : Int).toNat ([] : List UInt8)
 let v373 := v372 == ([99, 97, 108, 108] : List UInt8)
 cond v373
 (let v374 := decide (x.f7 ≥ (3 : Int))
 cond v374
 (cond (inB (1 : Int) (List.length x.f0))
 (let v375 := List.getD x.f0 (1 : Int).toNat ([] : List UInt8)
 zlaa v375 fun r376 =>
 cond r376
 (cond (inB (1 : Int) (List.length x.f0))
 (let v377 := List.getD x.f0 (1 : Int).toNat ([] : List UInt8)
 cond (inB (2 : Int) (List.length x.f0))
 (let v378 := List.getD x.f0 (2 : Int).toNat ([] : List UInt8)
 zaaa v378 fun r379 r380 =>
 cond (inR (3 : Int) ((List.length x.f0 : Nat) : Int) (List.length x.f0))
 (let v381 := rng x.f0 (3 : Int) ((List.length x.f0 : Nat) : Int)
 zPaa v381 fun r382 r383 =>
 k_normal x.f2 ((5 : Int), (x.f4.2.1, (x.f4.2.2.1, (x.f4.2.2.2.1, (v377, (r382, (r379, x.f4.2.2.2.2.2.2.2))))))) r380 r383) none) none) none)
 (cond (inB (0 : Int) (List.length x.f0))
 (let v384 := List.getD x.f0 (0 : Int).toNat ([] : List UInt8)
 let v385 := v384 == ([114, 101, 97, 100] : List UInt8)
 cond v385
 (let v386 := x.f7 == (2 : Int)
 cond v386
 (cond (inB (1 : Int) (List.length x.f0))
 (let v387 := List.getD x.f0 (1 : Int).toNat ([] : List UInt8)
 zlaa v387 fun r388 =>
 cond r388
 (cond (inB (1 : Int) (List.length x.f0))
 (let v389 := List.getD x.f0 (1 : Int).toNat ([] : List UInt8)
 k_normal x.f2 ((6 : Int), (x.f4.2.1, (x.f4.2.2.1, (x.f4.2.2.2.1, (v389, x.f4.2.2.2.2.2))))) x.f5 x.f6) none)
 (cond (inB (0 : Int) (List.length x.f0))
 (let v390 := List.getD x.f0 (0 : Int).toNat ([] : List UInt8)
 let v391 := v390 == ([112, 101, 101, 107] : List UInt8)
 cond v391
 (let v392 := x.f7 == (3 : Int)
 cond v392
 (cond (inB (1 : Int) (List.length x.f0))
 (let v393 := List.getD x.f0 (1 : Int).toNat ([] : List UInt8)
 zaaa v393 fun r394 r395 =>
 cond (inB (2 : Int) (List.length x.f0))
 (let v396 := List.getD x.f0 (2 : Int).toNat ([] : List UInt8)
 zaaa v396 fun r397 r398 =>
 k_normal x.f2 ((7 : Int), (x.f4.2.1, (x.f4.2.2.1, (x.f4.2.2.2.1, (x.f4.2.2.2.2.1, (x.f4.2.2.2.2.2.1, (x.f4.2.2.2.2.2.2.1, (r394, (r397, x.f4.2.2.2.2.2.2.2.2.2))))))))) r395 r398) none) none)
 (k_ret x.f4 false))
 (k_ret x.f4 false)) none)) none)
 (cond (inB (0 : Int) (List.length x.f0))
 (let v399 := List.getD x.f0 (0 : Int).toNat ([] : List UInt8)
 let v400 := v399 == ([112, 101, 101, 107] : List UInt8)
 cond v400
 (let v401 := x.f7 == (3 : Int)
 cond v401
 (cond (inB (1 : Int) (List.length x.f0))
 (let v402 := List.getD x.f0 (1 : Int).toNat ([] : List UInt8)
 zaaa v402 fun r403 r404 =>
 cond (inB (2 : Int) (List.length x.f0))
 (let v405 := List.getD x.f0 (2 : Int).toNat ([] : List UInt8)
 zaaa v405 fun r406 r407 =>
 k_normal x.f2 ((7 : Int), (x.f4.2.1, (x.f4.2.2.1, (x.f4.2.2.2.1, (x.f4.2.2.2.2.1, (x.f4.2.2.2.2.2.1, (x.f4.2.2.2.2.2.2.1, (r403, (r406, x.f4.2.2.2.2.2.2.2.2.2))))))))) r404 r407) none) none)
 (k_ret x.f4 false))
 (k_ret x.f4 false)) none))
 (cond (inB (0 : Int) (List.length x.f0))
 (let v408 := List.getD x.f0 (0 : Int).toNat ([] : List UInt8)
 let v409 := v408 == ([112, 101, 101, 107] : List UInt8)
 cond v409
 (let v410 := x.f7 == (3 : Int)
 cond v410
 (cond (inB (1 : Int) (List.length x.f0))
 (let v411 := List.getD x.f0 (1 : Int).toNat ([] : List UInt8)
 zaaa v411 fun r412 r413 =>
 cond (inB (2 : Int) (List.length x.f0))
 (let v414 := List.getD x.f0 (2 : Int).toNat ([] : List UInt8)
 zaaa v414 fun r415 r416 =>
 k_normal x.f2 ((7 : Int), (x.f4.2.1, (x.f4.2.2.1, (x.f4.2.2.2.1, (x.f4.2.2.2.2.1, (x.f4.2.2.2.2.2.1, (x.f4.2.2.2.2.2.2.1, (r412, (r415, x.f4.2.2.2.2.2.2.2.2.2))))))))) r413 r416) none) none)
 (k_ret x.f4 false))
 (k_ret x.f4 false)) none)) none)) none)
 (cond (inB (0 : Int) (List.length x.f0))
 (let v417 := List.getD x.f0 (0 : Int).toNat ([] : List UInt8)
 let v418 := v417 == ([114, 101, 97, 100] : List UInt8)
 cond v418
 (let v419 := x.f7 == (2 : Int)
 cond v419
 (cond (inB (1 : Int) (List.length x.f0))
 (let v420 := List.getD x.f0 (1 : Int).toNat ([] : List UInt8)
 zlaa v420 fun r421 =>
 cond r421
 (cond (inB (1 : Int) (List.length x.f0))
 (let v422 := List.getD x.f0 (1 : Int).toNat ([] : List UInt8)
 k_normal x.f2 ((6 : Int), (x.f4.2.1, (x.f4.2.2.1, (x.f4.2.2.2.1, (v422, x.f4.2.2.2.2.2))))) x.f5 x.f6) none)
 (cond (inB (0 : Int) (List.length x.f0))
 (let v423 := List.getD x.f0 (0 : Int).toNat ([] : List UInt8)
 let v424 := v423 == ([112, 101, 101, 107] : List UInt8)
 cond v424
 (let v425 := x.f7 == (3 : Int)
 cond v425
 (cond (inB (1 : Int) (List.length x.f0))
 (let v426 := List.getD x.f0 (1 : Int).toNat ([] : List UInt8)
 zaaa v426 fun r427 r428 =>
 cond (inB (2 : Int) (List.length x.f0))
 (let v429 := List.getD x.f0 (2 : Int).toNat ([] : List UInt8)
 zaaa v429 fun r430 r431 =>
 k_normal x.f2 ((7 : Int), (x.f4.2.1, (x.f4.2.2.1, (x.f4.2.2.2.1, (x.f4.2.2.2.2.1, (x.f4.2.2.2.2.2.1, (x.f4.2.2.2.2.2.2.1, (r427, (r430, x.f4.2.2.2.2.2.2.2.2.2))))))))) r428 r431) none) none)
 (k_ret x.f4 false))
 (k_ret x.f4 false)) none)) none)
 (cond (inB (0 : Int) (List.length x.f0))
 (let v432 := List.getD x.f0 (0 : Int).toNat ([] : List UInt8)
 let v433 := v432 == ([112, 101, 101, 107] : List UInt8)
 cond v433
 (let v434 := x.f7 == (3 : Int)
 cond v434
 (cond (inB (1 : Int) (List.length x.f0))
 (let v435 := List.getD x.f0 (1 : Int).toNat ([] : List UInt8)
 zaaa v435 fun r436 r437 =>
 cond (inB (2 : Int) (List.length x.f0))
 (let v438 := List.getD x.f0 (2 : Int).toNat ([] : List UInt8)
 zaaa v438 fun r439 r440 =>
 k_normal x.f2 ((7 : Int), (x.f4.2.1, (x.f4.2.2.1, (x.f4.2.2.2.1, (x.f4.2.2.2.2.1, (x.f4.2.2.2.2.2.1, (x.f4.2.2.2.2.2.2.1, (r436, (r439, x.f4.2.2.2.2.2.2.2.2.2))))))))) r437 r440) none) none)
 (k_ret x.f4 false))
 (k_ret x.f4 false)) none))
 (cond (inB (0 : Int) (List.length x.f0))
 (let v441 := List.getD x.f0 (0 : Int).toNat ([] : List UInt8)
 let v442 := v441 == ([112, 101, 101, 107] : List UInt8)
 cond v442
 (let v443 := x.f7 == (3 : Int)
 cond v443
 (cond (inB (1 : Int) (List.length x.f0))
 (let v444 := List.getD x.f0 (1 : Int).toNat ([] : List UInt8)
 zaaa v444 fun r445 r446 =>
 cond (inB (2 : Int) (List.length x.f0))
 (let v447 := List.getD x.f0 (2 : Int).toNat ([] : List UInt8)
 zaaa v447 fun r448 r449 =>
 k_normal x.f2 ((7 : Int), (x.f4.2.1, (x.f4.2.2.1, (x.f4.2.2.2.1, (x.f4.2.2.2.2.1, (x.f4.2.2.2.2.2.1, (x.f4.2.2.2.2.2.2.1, (r445, (r448, x.f4.2.2.2.2.2.2.2.2.2))))))))) r446 r449) none) none)
 (k_ret x.f4 false))
 (k_ret x.f4 false)) none)) none))
 (cond (inB (0 : Int) (List.length x.f0))
 (let v450 := List.getD x.f0 (0 : Int).toNat ([] : List UInt8)
 let v451 := v450 == ([114, 101, 97, 100] : List UInt8)
 cond v451
 (let v452 := x.f7 == (2 : Int)
 cond v452
 (cond (inB (1 : Int) (List.length x.f0))
 (let v453 := List.getD x.f0 (1 : Int).toNat ([] : List UInt8)
 zlaa v453 fun r454 =>
 cond r454
 (cond (inB (1 : Int) (List.length x.f0))
 (let v455 := List.getD x.f0 (1 : Int).toNat ([] : List UInt8)
 k_normal x.f2 ((6 : Int), (x.f4.2.1, (x.f4.2.2.1, (x.f4.2.2.2.1, (v455, x.f4.2.2.2.2.2))))) x.f5 x.f6) none)
 (cond (inB (0 : Int) (List.length x.f0))
 (let v456 := List.getD x.f0 (0 : Int).toNat ([] : List UInt8)
 let v457 := v456 == ([112, 101, 101, 107] : List UInt8)
 cond v457
 (let v458 := x.f7 == (3 : Int)
 cond v458
 (cond (inB (1 : Int) (List.length x.f0))
 (let v459 := List.getD x.f0 (1 : Int).toNat ([] : List UInt8)
 zaaa v459 fun r460 r461 =>
 cond (inB (2 : Int) (List.length x.f0))
 (let v462 := List.getD x.f0 (2 : Int).toNat ([] : List UInt8)
 zaaa v462 fun r463 r464 =>
 k_normal x.f2 ((7 : Int), (x.f4.2.1, (x.f4.2.2.1, (x.f4.2.2.2.1, (x.f4.2.2.2.2.1, (x.f4.2.2.2.2.2.1, (x.f4.2.2.2.2.2.2.1, (r460, (r463, x.f4.2.2.2.2.2.2.2.2.2))))))))) r461 r464) none) none)
 (k_ret x.f4 false))
 (k_ret x.f4 false)) none)) none)
 (cond (inB (0 : Int) (List.length x.f0))
 (let v465 := List.getD x.f0 (0 : Int).toNat ([] : List UInt8)
 let v466 := v465 == ([112, 101, 101, 107] : List UInt8)
 cond v466
 (let v467 := x.f7 == (3 : Int)
 cond v467
 (cond (inB (1 : Int) (List.length x.f0))
 (let v468 := List.getD x.f0 (1 : Int).toNat ([] : List UInt8)
 zaaa v468 fun r469 r470 =>
 cond (inB (2 : Int) (List.length x.f0))
 (let v471 := List.getD x.f0 (2 : Int).toNat ([] : List UInt8)
 zaaa v471 fun r472 r473 =>
 k_normal x.f2 ((7 : Int), (x.f4.2.1, (x.f4.2.2.1, (x.f4.2.2.2.1, (x.f4.2.2.2.2.1, (x.f4.2.2.2.2.2.1, (x.f4.2.2.2.2.2.2.1, (r469, (r472, x.f4.2.2.2.2.2.2.2.2.2))))))))) r470 r473) none) none)
 (k_ret x.f4 false))
 (k_ret x.f4 false)) none))
 (cond (inB (0 : Int) (List.length x.f0))
 (let v474 := List.getD x.f0 (0 : Int).toNat ([] : List UInt8)
 let v475 := v474 == ([112, 101, 101, 107] : List UInt8)
 cond v475
 (let v476 := x.f7 == (3 : Int)
 cond v476
 (cond (inB (1 : Int) (List.length x.f0))
 (let v477 := List.getD x.f0 (1 : Int).toNat ([] : List UInt8)
 zaaa v477 fun r478 r479 =>
 cond (inB (2 : Int) (List.length x.f0))
 (let v480 := List.getD x.f0 (2 : Int).toNat ([] : List UInt8)
 zaaa v480 fun r481 r482 =>
 k_normal x.f2 ((7 : Int), (x.f4.2.1, (x.f4.2.2.1, (x.f4.2.2.2.1, (x.f4.2.2.2.2.1, (x.f4.2.2.2.2.2.1, (x.f4.2.2.2.2.2.2.1, (r478, (r481, x.f4.2.2.2.2.2.2.2.2.2))))))))) r479 r482) none) none)
 (k_ret x.f4 false))
 (k_ret x.f4 false)) none)) none)) none)) none)) none)) none)) none
noncomputable def zhpa (x : zpfa) : St := St.ofList [(0, (.v (.sl 9 .str) .s x.f0)), (2, (.v (.ptr 43 (.pair (.int .i64) (.pair (.sl 5 (.int .u8)) Ty5))) (.o (.p .s (.p (.o .s) (.p .s (.p (.p .s (.p .s (.p (.o .s) (.p .s (.p (.o .s) .s))))) (.p .s (.p (.o .s) .s))))))) (some x.f2))), (4, (.v (.ptr 43 (.pair (.int .i64) (.pair (.sl 5 (.int .u8)) Ty5))) (.o (.p .s (.p (.o .s) (.p .s (.p (.p .s (.p .s (.p (.o .s) (.p .s (.p (.o .s) .s))))) (.p .s (.p (.o .s) .s))))))) (some x.f4))), (5, (.v .bool .s x.f5)), (6, (.v .bool .s x.f6)), (7, (.v (.int .i64) .s x.f7))]
def zCna : Ex → List (Nat × Bool) | .normal => [(2, false), (4, false), (5, false), (6, false)] | .ret => [(2, false), (3, false)] | _ => []
def zTia : List (Nat × Bool) := [(0, false), (2, false), (4, false), (5, false), (6, false), (7, false)]
noncomputable def zSia : Pt zpfa := .s 0 (sV (.sl 9 .str) .s) fun y0 => .s 2 (sP 43 (.pair (.int .i64) (.pair (.sl 5 (.int .u8)) Ty5)) (.o (.p .s (.p (.o .s) (.p .s (.p (.p .s (.p .s (.p (.o .s) (.p .s (.p (.o .s) .s))))) (.p .s (.p (.o .s) .s)))))))) fun y2 => .s 4 (sP 43 (.pair (.int .i64) (.pair (.sl 5 (.int .u8)) Ty5)) (.o (.p .s (.p (.o .s) (.p .s (.p (.p .s (.p .s (.p (.o .s) (.p .s (.p (.o .s) .s))))) (.p .s (.p (.o .s) .s)))))))) fun y4 => .s 5 (sV .bool .s) fun y5 => .s 6 (sV .bool .s) fun y6 => .s 7 (sV (.int .i64) .s) fun y7 => .e ⟨y0, y2, y4, y5, y6, y7⟩
noncomputable def zMja (R : Type) (K : Ex → St → Option R) : zpfa → Option R := zBaa (fun e2 e4 e5 e6 => K .normal (St.ofList [(2, (.v (.ptr 43 (.pair (.int .i64) (.pair (.sl 5 (.int .u8)) Ty5))) (.o (.p .s (.p (.o .s) (.p .s (.p (.p .s (.p .s (.p (.o .s) (.p .s (.p (.o .s) .s))))) (.p .s (.p (.o .s) .s))))))) (some e2))), (4, (.v (.ptr 43 (.pair (.int .i64) (.pair (.sl 5 (.int .u8)) Ty5))) (.o (.p .s (.p (.o .s) (.p .s (.p (.p .s (.p .s (.p (.o .s) (.p .s (.p (.o .s) .s))))) (.p .s (.p (.o .s) .s))))))) (some e4))), (5, (.v .bool .s e5)), (6, (.v .bool .s e6))])) (fun e2 e3 => K .ret (St.ofList [(2, (.v (.ptr 43 (.pair (.int .i64) (.pair (.sl 5 (.int .u8)) Ty5))) (.o (.p .s (.p (.o .s) (.p .s (.p (.p .s (.p .s (.p (.o .s) (.p .s (.p (.o .s) .s))))) (.p .s (.p (.o .s) .s))))))) (some e2))), (3, (.v .bool .s e3))]))
noncomputable def zGha : Code := match joinC 27 (body Tryd.f18.body) with | some c => c | none => .skip
noncomputable def zCha : Loops := fun z i R st K => match z, i with
 | true, 27 => lpE zTia zSia (zMja R K) st
 | _, _ => none
theorem zHla : JStep znda zCha inl0 zGha zCna zhpa zMja := fun R K x => by kernel_rfl
theorem zDna : zQfa znda zCha inl0 zGha 27 := zkba (hd := zTia) zHla (p := zSia) (fun _ _ _ _ _ _ => ⟨rfl, rfl⟩) (fun R st K => by kernel_rfl)
theorem zdoa : zZaa znda zCha inl0 (body Tryd.f18.body) := by
 refine zCaa (fun c hc => ?_) (fun c hc => ?_)
 ·rw [show zlea (body Tryd.f18.body) = [] by kernel_rfl] at hc; cases hc
 ·rw [show zmea znda (body Tryd.f18.body) = [(zGha, 27)] by kernel_rfl] at hc
  simp only [List.mem_cons, List.not_mem_nil, or_false] at hc
  rcases hc with rfl
  ·exact zDna
noncomputable def zpaa {R : Type} (a0 : List (List UInt8)) (K : ((Int) × It3) → Bool → Option R) : Option R :=
 let v1 := ((List.length a0 : Nat) : Int)
 zBaa (fun w2 w3 w4 w5 =>
 cond w4
 (K w3 w5)
 (K w3 false)) (fun w6 w7 =>
 K w6 w7) ⟨a0, ((0 : Int), (([] : List (Int)), (((0 : Int), (false, ((0 : Int), ((0 : Int), (false, ((0 : Int), ())))))), ((false, (false, (([] : List (Int)), ((0 : Int), (([] : List (Int)), ()))))), (([] : List UInt8), (([] : List (Int)), ((0 : Int), ((0 : Int), ((0 : Int), ()))))))))), ((0 : Int), (([] : List (Int)), (((0 : Int), (false, ((0 : Int), ((0 : Int), (false, ((0 : Int), ())))))), ((false, (false, (([] : List (Int)), ((0 : Int), (([] : List (Int)), ()))))), (([] : List UInt8), (([] : List (Int)), ((0 : Int), ((0 : Int), ((0 : Int), ()))))))))), true, true, v1⟩
noncomputable def zLna : CSpec := { ins := [(.val (.sl 9 .str) .s)], outs := [((.pair (.int .i64) (.pair (.sl 5 (.int .u8)) Ty5)), (.p .s (.p (.o .s) (.p .s (.p (.p .s (.p .s (.p (.o .s) (.p .s (.p (.o .s) .s))))) (.p .s (.p (.o .s) .s))))))), (.bool, .s)], fn := fun (d : (List (List UInt8)) × Unit) K _ => zpaa d.1 (fun r0 r1 => K ((r0, r1, ()) : ((Int) × It3) × Bool × Unit) ((()) : Unit)) }
theorem zTra : Holds Tryd.prog 18 zLna := zsaa (env := znda) (inl := inl0) (lp := zCha) (rs := [(2, some 43), (3, none)]) (code := body Tryd.f18.body) ⟨mixed, envTyOk.ty, envTyOk.eq⟩ zgoa zTaa Tryd.func18 zdoa (by kernel_rfl) (by kernel_rfl) (by kernel_rfl) (by kernel_rfl) (by kernel_rfl) (by kernel_rfl) fun d R K Kp => by kernel_rfl
noncomputable def zfja : List (FuncId × List FuncId × CSpec) := [(17, [], zVka), (18, [], zLna)]
noncomputable def zZoa : Nat → Bool
 | 10 => true
 | _ => false
noncomputable def zSoa : Nat → Option (List Nat)
 | 0 => some [0]
 | 1 => some [0]
 | 2 => some [0, 5]
 | 3 => some [0, 5, 6, 7]
 | 4 => some [0, 5, 6, 7, 8]
 | 5 => some [0, 5, 6, 7, 8]
 | 6 => some [0, 5, 6, 7, 8]
 | 7 => some [0, 5, 6, 7, 8]
 | 8 => some [0, 5, 6, 7, 8]
 | 9 => some [7]
 | 10 => some [0, 5, 6, 7, 8]
 | 11 => some [0, 5, 7, 8, 9]
 | 12 => some [0, 5, 7, 8, 9]
 | 13 => some [0, 5, 7, 8, 10, 11]
 | 14 => some [7]
 | 15 => some [0, 5, 7, 8, 10]
 | 16 => some [0, 5, 7, 8]
 | 17 => some [0, 5, 6, 7, 8]
 | 18 => some [5]
 | _ => none
noncomputable def zcca : Env := { ty := envTy, eq := envEq, gam := (gamL zfja), n := Tryd.f9.ntmps, fs := zZoa, lv := zSoa }
theorem zEma : EnvFn Tryd.prog zcca := fun f gs c h => zKba (l := zfja) ⟨zEpa, zTra, trivial⟩ f gs c h
structure zQaa where
 f0 : List UInt8
 f5 : List ((Int) × It3)
 f6 : List UInt8
 f7 : Int
 f8 : Int
noncomputable def zdba {R : Type} (k_ret : (List ((Int) × It3)) → Int → Int → Option R) (k_exit_0 : (List ((Int) × It3)) → Option R) (rec : zQaa → Option R) (x : zQaa) : Option R :=
 let v1 := ((List.length x.f0 : Nat) : Int)
 let v2 := decide (x.f8 ≤ v1)
 cond v2
 (let v3 := ((List.length x.f0 : Nat) : Int)
 let v4 := decide (x.f8 < v3)
 cond v4
 (cond (inB x.f8 (List.length x.f0))
 (let v5 := bt x.f0 x.f8
 let v6 := v5 != (10 : Int)
 cond v6
 (let v7 := IntKind.i64.wrap (x.f8 + (1 : Int))
 cond (inR x.f8 v7 (List.length x.f0))
 (let v8 := rng x.f0 x.f8 v7
 cond (decide (x.f6.length + v8.length ≤ most))
 (let v9 := x.f6 ++ v8
 let v10 := IntKind.i64.wrap (x.f8 + (1 : Int))
 rec ⟨x.f0, x.f5, v9, x.f7, v10⟩) none) none)
 (let v11 := decide (x.f7 > (256 : Int))
 cond v11
 (k_ret ([] : List ((Int) × It3)) (4 : Int) x.f7)
 (let v12 := ((List.length x.f6 : Nat) : Int)
 let v13 := decide (v12 > (512 : Int))
 cond v13
 (k_ret ([] : List ((Int) × It3)) (4 : Int) x.f7)
 (zYca x.f6 fun r14 =>
 let v15 := ((List.length r14 : Nat) : Int)
 let v16 := decide (v15 > (0 : Int))
 cond v16
 (cond (inB (0 : Int) (List.length r14))
 (let v17 := (List.getD r14 (0 : Int).toNat ([] : List UInt8))
 cond (inB (0 : Int) (List.length v17))
 (let v18 := bt v17 (0 : Int)
 let v19 := v18 != (35 : Int)
 cond v19
 (zpaa r14 fun r20 r21 =>
 let v22 := !r21
 cond v22
 (k_ret ([] : List ((Int) × It3)) (2 : Int) x.f7)
 (let v23 := List.set (List.replicate 1 ((0 : Int), (([] : List (Int)), (((0 : Int), (false, ((0 : Int), ((0 : Int), (false, ((0 : Int), ())))))), ((false, (false, (([] : List (Int)), ((0 : Int), (([] : List (Int)), ()))))), (([] : List UInt8), (([] : List (Int)), ((0 : Int), ((0 : Int), ((0 : Int), ())))))))))) 0 r20
 cond (decide (List.length x.f5 + List.length v23 ≤ most))
 (let v24 := x.f5 ++ v23
 let v25 := IntKind.i64.wrap (x.f7 + (1 : Int))
 let v26 := IntKind.i64.wrap (x.f8 + (1 : Int))
 rec ⟨x.f0, v24, ([] : List UInt8), v25, v26⟩) none))
 (let v27 := IntKind.i64.wrap (x.f7 + (1 : Int))
 let v28 := IntKind.i64.wrap (x.f8 + (1 : Int))
 rec ⟨x.f0, x.f5, ([] : List UInt8), v27, v28⟩)) none) none)
 (let v29 := IntKind.i64.wrap (x.f7 + (1 : Int))
 let v30 := IntKind.i64.wrap (x.f8 + (1 : Int))
 rec ⟨x.f0, x.f5, ([] : List UInt8), v29, v30⟩))))) none)
 (let v31 := decide (x.f7 > (256 : Int))
 cond v31
 (k_ret ([] : List ((Int) × It3)) (4 : Int) x.f7)
 (let v32 := ((List.length x.f6 : Nat) : Int)
 let v33 := decide (v32 > (512 : Int))
 cond v33
 (k_ret ([] : List ((Int) × It3)) (4 : Int) x.f7)
 (zYca x.f6 fun r34 =>
 let v35 := ((List.length r34 : Nat) : Int)
 let v36 := decide (v35 > (0 : Int))
 cond v36
 (cond (inB (0 : Int) (List.length r34))
 (let v37 := (List.getD r34 (0 : Int).toNat ([] : List UInt8))
 cond (inB (0 : Int) (List.length v37))
 (let v38 := bt v37 (0 : Int)
 let v39 := v38 != (35 : Int)
 cond v39
 (zpaa r34 fun r40 r41 =>
 let v42 := !r41
 cond v42
 (k_ret ([] : List ((Int) × It3)) (2 : Int) x.f7)
 (let v43 := List.set (List.replicate 1 ((0 : Int), (([] : List (Int)), (((0 : Int), (false, ((0 : Int), ((0 : Int), (false, ((0 : Int), ())))))), ((false, (false, (([] : List (Int)), ((0 : Int), (([] : List (Int)), ()))))), (([] : List UInt8), (([] : List (Int)), ((0 : Int), ((0 : Int), ((0 : Int), ())))))))))) 0 r40
 cond (decide (List.length x.f5 + List.length v43 ≤ most))
 (let v44 := x.f5 ++ v43
 let v45 := IntKind.i64.wrap (x.f7 + (1 : Int))
 let v46 := IntKind.i64.wrap (x.f8 + (1 : Int))
 rec ⟨x.f0, v44, ([] : List UInt8), v45, v46⟩) none))
 (let v47 := IntKind.i64.wrap (x.f7 + (1 : Int))
 let v48 := IntKind.i64.wrap (x.f8 + (1 : Int))
 rec ⟨x.f0, x.f5, ([] : List UInt8), v47, v48⟩)) none) none)
 (let v49 := IntKind.i64.wrap (x.f7 + (1 : Int))
 let v50 := IntKind.i64.wrap (x.f8 + (1 : Int))
 rec ⟨x.f0, x.f5, ([] : List UInt8), v49, v50⟩)))))
 (k_exit_0 x.f5)
noncomputable def zloa (x : zQaa) : St := St.ofList [(0, (.v .str .s x.f0)), (5, (.v (.sl 43 (.pair (.int .i64) (.pair (.sl 5 (.int .u8)) Ty5))) (.o .s) x.f5)), (6, (.v .str .s x.f6)), (7, (.v (.int .i64) .s x.f7)), (8, (.v (.int .i64) .s x.f8))]
def znma : Ex → List (Nat × Bool) | .ret => [(2, false), (3, false), (4, false)] | .exit 0 => [(5, false)] | _ => []
def zZia : List (Nat × Bool) := [(0, false), (5, false), (6, false), (7, false), (8, false)]
noncomputable def zMia : Pt zQaa := .s 0 (sV .str .s) fun y0 => .s 5 (sV (.sl 43 (.pair (.int .i64) (.pair (.sl 5 (.int .u8)) Ty5))) (.o .s)) fun y5 => .s 6 (sV .str .s) fun y6 => .s 7 (sV (.int .i64) .s) fun y7 => .s 8 (sV (.int .i64) .s) fun y8 => .e ⟨y0, y5, y6, y7, y8⟩
noncomputable def zYja (R : Type) (K : Ex → St → Option R) : (zQaa → Option R) → zQaa → Option R := zdba (fun e2 e3 e4 => K .ret (St.ofList [(2, (.v (.sl 43 (.pair (.int .i64) (.pair (.sl 5 (.int .u8)) Ty5))) (.o .s) e2)), (3, (.v (.int .i64) .s e3)), (4, (.v (.int .i64) .s e4))])) (fun e5 => K (.exit 0) (St.ofList [(5, (.v (.sl 43 (.pair (.int .i64) (.pair (.sl 5 (.int .u8)) Ty5))) (.o .s) e5))]))
noncomputable def zwga : Code := match zrfa 4 (body Tryd.f9.body) with | some c => c | none => .skip
noncomputable def zmfa : Loops := fun z i R st K => match z, i with
 | false, 4 => lpE zZia zMia (lpL zYja K) st
 | _, _ => none
theorem zlla : LStep zcca zmfa inl0 zwga zZia znma zloa zYja := fun R K rec x => by kernel_rfl
theorem ztna : zrha zcca zmfa inl0 zwga := zWba zlla (p := zMia) (i := 4) (fun _ _ _ _ _ => ⟨rfl, rfl⟩) (by kernel_rfl) (fun R st K => by kernel_rfl)
theorem zwma : zZaa zcca zmfa inl0 (body Tryd.f9.body) := by
 refine zCaa (fun c hc => ?_) (fun c hc => ?_)
 ·rw [show zlea (body Tryd.f9.body) = [zwga] by kernel_rfl] at hc
  simp only [List.mem_cons, List.not_mem_nil, or_false] at hc
  rcases hc with rfl
  ·exact ztna
 ·rw [show zmea zcca (body Tryd.f9.body) = [] by kernel_rfl] at hc; cases hc
noncomputable def zSfa {R : Type} (a0 : List UInt8) (K : (List ((Int) × It3)) → Int → Int → Option R) : Option R :=
 loopN (zdba (fun w1 w2 w3 =>
 K w1 w2 w3) (fun w4 =>
 K w4 (0 : Int) (0 : Int))) zyfa ⟨a0, ([] : List ((Int) × It3)), ([] : List UInt8), (1 : Int), (0 : Int)⟩
noncomputable def zXka : CSpec := { ins := [(.val .str .s)], outs := [((.sl 43 (.pair (.int .i64) (.pair (.sl 5 (.int .u8)) Ty5))), (.o .s)), ((.int .i64), .s), ((.int .i64), .s)], fn := fun (d : (List UInt8) × Unit) K _ => zSfa d.1 (fun r0 r1 r2 => K ((r0, r1, r2, ()) : (List ((Int) × It3)) × Int × Int × Unit) ((()) : Unit)) }
theorem zGpa : Holds Tryd.prog 9 zXka := zsaa (env := zcca) (inl := inl0) (lp := zmfa) (rs := [(2, none), (3, none), (4, none)]) (code := body Tryd.f9.body) ⟨mixed, envTyOk.ty, envTyOk.eq⟩ zEma zTaa Tryd.func9 zwma (by kernel_rfl) (by kernel_rfl) (by kernel_rfl) (by kernel_rfl) (by kernel_rfl) (by kernel_rfl) fun d R K Kp => by kernel_rfl
noncomputable def zEda : Env := { ty := envTy, eq := envEq, gam := noG, n := Tryd.f42.ntmps }
structure zAca where
 f0 : List (Int)
 f1 : List (Int)
 f5 : Int
noncomputable def zBca {R : Type} (k_ret : Bool → Option R) (k_exit_0 : Option R) (rec : zAca → Option R) (x : zAca) : Option R :=
 let v1 := ((List.length x.f0 : Nat) : Int)
 let v2 := decide (x.f5 < v1)
 cond v2
 (cond (inB x.f5 (List.length x.f0))
 (let v3 := List.getD x.f0 x.f5.toNat (0 : Int)
 cond (inB x.f5 (List.length x.f1))
 (let v4 := List.getD x.f1 x.f5.toNat (0 : Int)
 let v5 := v3 != v4
 cond v5
 (k_ret false)
 (let v6 := IntKind.i64.wrap (x.f5 + (1 : Int))
 rec ⟨x.f0, x.f1, v6⟩)) none) none)
 (k_exit_0)
noncomputable def zgpa (x : zAca) : St := St.ofList [(0, (.v (.sl 5 (.int .u8)) .s x.f0)), (1, (.v (.sl 5 (.int .u8)) .s x.f1)), (5, (.v (.int .i64) .s x.f5))]
def zmna : Ex → List (Nat × Bool) | .ret => [(4, false)] | .exit 0 => [] | _ => []
def zOja : List (Nat × Bool) := [(0, false), (1, false), (5, false)]
noncomputable def zLja : Pt zAca := .s 0 (sV (.sl 5 (.int .u8)) .s) fun y0 => .s 1 (sV (.sl 5 (.int .u8)) .s) fun y1 => .s 5 (sV (.int .i64) .s) fun y5 => .e ⟨y0, y1, y5⟩
noncomputable def zela (R : Type) (K : Ex → St → Option R) : (zAca → Option R) → zAca → Option R := zBca (fun e4 => K .ret (St.ofList [(4, (.v .bool .s e4))])) (K (.exit 0) (St.ofList []))
noncomputable def zQha : Code := match zrfa 4 (body Tryd.f42.body) with | some c => c | none => .skip
noncomputable def zUfa : Loops := fun z i R st K => match z, i with
 | false, 4 => lpE zOja zLja (lpL zela K) st
 | _, _ => none
theorem zima : LStep zEda zUfa inl0 zQha zOja zmna zgpa zela := fun R K rec x => by kernel_rfl
theorem zboa : zrha zEda zUfa inl0 zQha := zWba zima (p := zLja) (i := 4) (fun _ _ _ => ⟨rfl, rfl⟩) (by kernel_rfl) (fun R st K => by kernel_rfl)
theorem zyna : zZaa zEda zUfa inl0 (body Tryd.f42.body) := by
 refine zCaa (fun c hc => ?_) (fun c hc => ?_)
 ·rw [show zlea (body Tryd.f42.body) = [zQha] by kernel_rfl] at hc
  simp only [List.mem_cons, List.not_mem_nil, or_false] at hc
  rcases hc with rfl
  ·exact zboa
 ·rw [show zmea zEda (body Tryd.f42.body) = [] by kernel_rfl] at hc; cases hc
noncomputable def zyha {R : Type} (a0 : List (Int)) (a1 : List (Int)) (K : Bool → Option R) : Option R :=
 let v1 := ((List.length a0 : Nat) : Int)
 let v2 := ((List.length a1 : Nat) : Int)
 let v3 := v1 != v2
 cond v3
 (K false)
 (loopN (zBca (fun w4 =>
 K w4) (K true)) zyfa ⟨a0, a1, (0 : Int)⟩)
noncomputable def zema : CSpec := { ins := [(.val (.sl 5 (.int .u8)) .s), (.val (.sl 5 (.int .u8)) .s)], outs := [(.bool, .s)], fn := fun (d : (List (Int)) × (List (Int)) × Unit) K _ => zyha d.1 d.2.1 (fun r0 => K ((r0, ()) : Bool × Unit) ((()) : Unit)) }
theorem zBqa : Holds Tryd.prog 42 zema := zsaa (env := zEda) (inl := inl0) (lp := zUfa) (rs := [(4, none)]) (code := body Tryd.f42.body) ⟨mixed, envTyOk.ty, envTyOk.eq⟩ (fun _ _ _ h => by cases h) zTaa Tryd.func42 zyna (by kernel_rfl) (by kernel_rfl) (by kernel_rfl) (by kernel_rfl) (by kernel_rfl) (by kernel_rfl) fun d R K Kp => by kernel_rfl
noncomputable def zUaa : Env := { ty := envTy, eq := envEq, gam := noG, n := Tryd.f44.ntmps }
structure zKaa where
 f0 : List (Int)
 f1 : List (Int)
 f5 : Int
noncomputable def zMaa {R : Type} (k_ret : Bool → Option R) (k_exit_0 : Option R) (rec : zKaa → Option R) (x : zKaa) : Option R :=
 let v1 := ((List.length x.f0 : Nat) : Int)
 let v2 := decide (x.f5 < v1)
 cond v2
 (cond (inB x.f5 (List.length x.f0))
 (let v3 := List.getD x.f0 x.f5.toNat (0 : Int)
 cond (inB x.f5 (List.length x.f1))
 (let v4 := List.getD x.f1 x.f5.toNat (0 : Int)
 let v5 := v3 != v4
 cond v5
 (k_ret false)
 (let v6 := IntKind.i64.wrap (x.f5 + (1 : Int))
 rec ⟨x.f0, x.f1, v6⟩)) none) none)
 (k_exit_0)
noncomputable def zHja (x : zKaa) : St := St.ofList [(0, (.v (.sl 36 (.int .u64)) .s x.f0)), (1, (.v (.sl 36 (.int .u64)) .s x.f1)), (5, (.v (.int .i64) .s x.f5))]
def zsia : Ex → List (Nat × Bool) | .ret => [(4, false)] | .exit 0 => [] | _ => []
def zJea : List (Nat × Bool) := [(0, false), (1, false), (5, false)]
noncomputable def zDea : Pt zKaa := .s 0 (sV (.sl 36 (.int .u64)) .s) fun y0 => .s 1 (sV (.sl 36 (.int .u64)) .s) fun y1 => .s 5 (sV (.int .i64) .s) fun y5 => .e ⟨y0, y1, y5⟩
noncomputable def zgfa (R : Type) (K : Ex → St → Option R) : (zKaa → Option R) → zKaa → Option R := zMaa (fun e4 => K .ret (St.ofList [(4, (.v .bool .s e4))])) (K (.exit 0) (St.ofList []))
noncomputable def zGca : Code := match zrfa 4 (body Tryd.f44.body) with | some c => c | none => .skip
noncomputable def zVba : Loops := fun z i R st K => match z, i with
 | false, 4 => lpE zJea zDea (lpL zgfa K) st
 | _, _ => none
theorem zvha : LStep zUaa zVba inl0 zGca zJea zsia zHja zgfa := fun R K rec x => by kernel_rfl
theorem zPia : zrha zUaa zVba inl0 zGca := zWba zvha (p := zDea) (i := 4) (fun _ _ _ => ⟨rfl, rfl⟩) (by kernel_rfl) (fun R st K => by kernel_rfl)
theorem zvia : zZaa zUaa zVba inl0 (body Tryd.f44.body) := by
 refine zCaa (fun c hc => ?_) (fun c hc => ?_)
 ·rw [show zlea (body Tryd.f44.body) = [zGca] by kernel_rfl] at hc
  simp only [List.mem_cons, List.not_mem_nil, or_false] at hc
  rcases hc with rfl
  ·exact zPia
 ·rw [show zmea zUaa (body Tryd.f44.body) = [] by kernel_rfl] at hc; cases hc
noncomputable def zCba {R : Type} (a0 : List (Int)) (a1 : List (Int)) (K : Bool → Option R) : Option R :=
 let v1 := ((List.length a0 : Nat) : Int)
 let v2 := ((List.length a1 : Nat) : Int)
 let v3 := v1 != v2
 cond v3
 (K false)
 (loopN (zMaa (fun w4 =>
 K w4) (K true)) zyfa ⟨a0, a1, (0 : Int)⟩)
noncomputable def zVca : CSpec := { ins := [(.val (.sl 36 (.int .u64)) .s), (.val (.sl 36 (.int .u64)) .s)], outs := [(.bool, .s)], fn := fun (d : (List (Int)) × (List (Int)) × Unit) K _ => zCba d.1 d.2.1 (fun r0 => K ((r0, ()) : Bool × Unit) ((()) : Unit)) }
theorem zfga : Holds Tryd.prog 44 zVca := zsaa (env := zUaa) (inl := inl0) (lp := zVba) (rs := [(4, none)]) (code := body Tryd.f44.body) ⟨mixed, envTyOk.ty, envTyOk.eq⟩ (fun _ _ _ h => by cases h) zTaa Tryd.func44 zvia (by kernel_rfl) (by kernel_rfl) (by kernel_rfl) (by kernel_rfl) (by kernel_rfl) (by kernel_rfl) fun d R K Kp => by kernel_rfl
noncomputable def zafa : List (FuncId × List FuncId × CSpec) := [(44, [], zVca)]
noncomputable def zSka : Nat → Bool
 | 2 => true
 | 3 => true
 | _ => false
noncomputable def zAfa : Env := { ty := envTy, eq := envEq, gam := (gamL zafa), n := Tryd.f43.ntmps, fz := zSka }
theorem zija : EnvFn Tryd.prog zAfa := fun f gs c h => zKba (l := zafa) ⟨zfga, trivial⟩ f gs c h
noncomputable def zwca {R : Type} (a0 : (Bool) × (Bool) × (List (Int)) × (Int) × (List (Int)) × Unit) (a1 : (Bool) × (Bool) × (List (Int)) × (Int) × (List (Int)) × Unit) (K : Bool → Option R) : Option R :=
 let v1 := a0.1 == a1.1
 cond v1
 (let v2 := a0.2.1 == a1.2.1
 cond v2
 (zCba a0.2.2.1 a1.2.2.1 fun r3 =>
 cond r3
 (let v4 := a0.2.2.2.1 == a1.2.2.2.1
 cond v4
 (let v5 := u8s a0.2.2.2.2.1
 let v6 := u8s a1.2.2.2.2.1
 let v7 := v5 == v6
 K v7)
 (K false))
 (K false))
 (K false))
 (K false)
noncomputable def zgga : CSpec := { ins := [(.val (.pair .bool (.pair .bool Ty1)) .s), (.val (.pair .bool (.pair .bool Ty1)) .s)], outs := [(.bool, .s)], fn := fun (d : ((Bool) × (Bool) × (List (Int)) × (Int) × (List (Int)) × Unit) × ((Bool) × (Bool) × (List (Int)) × (Int) × (List (Int)) × Unit) × Unit) K _ => zwca d.1 d.2.1 (fun r0 => K ((r0, ()) : Bool × Unit) ((()) : Unit)) }
theorem zOla : Holds Tryd.prog 43 zgga := zsaa (env := zAfa) (inl := inl0) (lp := lp0) (rs := [(4, none)]) (code := body Tryd.f43.body) ⟨mixed, envTyOk.ty, envTyOk.eq⟩ zija zTaa Tryd.func43 (zraa (by kernel_rfl) (by kernel_rfl)) (by kernel_rfl) (by kernel_rfl) (by kernel_rfl) (by kernel_rfl) (by kernel_rfl) (by kernel_rfl) fun d R K Kp => by kernel_rfl
noncomputable def zRja : List (FuncId × List FuncId × CSpec) := [(42, [], zema), (43, [], zgga), (44, [], zVca)]
noncomputable def zJpa : Nat → Bool
 | 2 => true
 | 3 => true
 | _ => false
noncomputable def zApa : Nat → Option (List Nat)
 | 0 => some [0, 1]
 | 1 => some [2, 3]
 | _ => none
noncomputable def zTka : Env := { ty := envTy, eq := envEq, gam := (gamL zRja), n := Tryd.f19.ntmps, fz := zJpa, lv := zApa }
theorem zFna : EnvFn Tryd.prog zTka := fun f gs c h => zKba (l := zRja) ⟨zBqa, zOla, zfga, trivial⟩ f gs c h
noncomputable def zxha {R : Type} (a0 : (Int) × It3) (a1 : (Int) × It3) (K : Bool → Option R) : Option R :=
 let v1 := a0.1 == a1.1
 cond v1
 (zyha a0.2.1 a1.2.1 fun r2 =>
 cond r2
 (let v3 := ((a0.2.2.1.1 == a1.2.2.1.1) && ((a0.2.2.1.2.1 == a1.2.2.1.2.1) && ((a0.2.2.1.2.2.1 == a1.2.2.1.2.2.1) && ((a0.2.2.1.2.2.2.1 == a1.2.2.1.2.2.2.1) && ((a0.2.2.1.2.2.2.2.1 == a1.2.2.1.2.2.2.2.1) && ((a0.2.2.1.2.2.2.2.2.1 == a1.2.2.1.2.2.2.2.2.1) && true))))))
 cond v3
 (zwca a0.2.2.2.1 a1.2.2.2.1 fun r4 =>
 cond r4
 (let v5 := a0.2.2.2.2.1 == a1.2.2.2.2.1
 cond v5
 (zCba a0.2.2.2.2.2.1 a1.2.2.2.2.2.1 fun r6 =>
 cond r6
 (let v7 := a0.2.2.2.2.2.2.1 == a1.2.2.2.2.2.2.1
 cond v7
 (let v8 := a0.2.2.2.2.2.2.2.1 == a1.2.2.2.2.2.2.2.1
 cond v8
 (let v9 := a0.2.2.2.2.2.2.2.2.1 == a1.2.2.2.2.2.2.2.2.1
 K v9)
 (K false))
 (K false))
 (K false))
 (K false))
 (K false))
 (K false))
 (K false))
 (K false)
noncomputable def zdma : CSpec := { ins := [(.val (.pair (.int .i64) (.pair (.sl 5 (.int .u8)) Ty5)) .s), (.val (.pair (.int .i64) (.pair (.sl 5 (.int .u8)) Ty5)) .s)], outs := [(.bool, .s)], fn := fun (d : ((Int) × It3) × ((Int) × It3) × Unit) K _ => zxha d.1 d.2.1 (fun r0 => K ((r0, ()) : Bool × Unit) ((()) : Unit)) }
theorem zAqa : Holds Tryd.prog 19 zdma := zsaa (env := zTka) (inl := inl0) (lp := lp0) (rs := [(4, none)]) (code := body Tryd.f19.body) ⟨mixed, envTyOk.ty, envTyOk.eq⟩ zFna zTaa Tryd.func19 (zraa (by kernel_rfl) (by kernel_rfl)) (by kernel_rfl) (by kernel_rfl) (by kernel_rfl) (by kernel_rfl) (by kernel_rfl) (by kernel_rfl) fun d R K Kp => by kernel_rfl
noncomputable def zkha : List (FuncId × List FuncId × CSpec) := [(19, [], zdma)]
noncomputable def zuba : Env := { ty := envTy, eq := envEq, gam := (gamL zkha), n := Tryd.f10.ntmps }
theorem zRka : EnvFn Tryd.prog zuba := fun f gs c h => zKba (l := zkha) ⟨zAqa, trivial⟩ f gs c h
structure zwba where
 f0 : List ((Int) × It3)
 f1 : List ((Int) × It3)
 f5 : Int
noncomputable def zzba {R : Type} (k_ret : Bool → Option R) (k_exit_0 : Option R) (rec : zwba → Option R) (x : zwba) : Option R :=
 let v1 := ((List.length x.f0 : Nat) : Int)
 let v2 := decide (x.f5 < v1)
 cond v2
 (cond (inB x.f5 (List.length x.f0))
 (let v3 := List.getD x.f0 x.f5.toNat ((0 : Int), (([] : List (Int)), (((0 : Int), (false, ((0 : Int), ((0 : Int), (false, ((0 : Int), ())))))), ((false, (false, (([] : List (Int)), ((0 : Int), (([] : List (Int)), ()))))), (([] : List UInt8), (([] : List (Int)), ((0 : Int), ((0 : Int), ((0 : Int), ())))))))))
 cond (inB x.f5 (List.length x.f1))
 (let v4 := List.getD x.f1 x.f5.toNat ((0 : Int), (([] : List (Int)), (((0 : Int), (false, ((0 : Int), ((0 : Int), (false, ((0 : Int), ())))))), ((false, (false, (([] : List (Int)), ((0 : Int), (([] : List (Int)), ()))))), (([] : List UInt8), (([] : List (Int)), ((0 : Int), ((0 : Int), ((0 : Int), ())))))))))
 zxha v3 v4 fun r5 =>
 let v6 := !r5
 cond v6
 (k_ret false)
 (let v7 := IntKind.i64.wrap (x.f5 + (1 : Int))
 rec ⟨x.f0, x.f1, v7⟩)) none) none)
 (k_exit_0)
noncomputable def zIma (x : zwba) : St := St.ofList [(0, (.v (.sl 43 (.pair (.int .i64) (.pair (.sl 5 (.int .u8)) Ty5))) .s x.f0)), (1, (.v (.sl 43 (.pair (.int .i64) (.pair (.sl 5 (.int .u8)) Ty5))) .s x.f1)), (5, (.v (.int .i64) .s x.f5))]
def zzka : Ex → List (Nat × Bool) | .ret => [(4, false)] | .exit 0 => [] | _ => []
def ziha : List (Nat × Bool) := [(0, false), (1, false), (5, false)]
noncomputable def zHga : Pt zwba := .s 0 (sV (.sl 43 (.pair (.int .i64) (.pair (.sl 5 (.int .u8)) Ty5))) .s) fun y0 => .s 1 (sV (.sl 43 (.pair (.int .i64) (.pair (.sl 5 (.int .u8)) Ty5))) .s) fun y1 => .s 5 (sV (.int .i64) .s) fun y5 => .e ⟨y0, y1, y5⟩
noncomputable def zpia (R : Type) (K : Ex → St → Option R) : (zwba → Option R) → zwba → Option R := zzba (fun e4 => K .ret (St.ofList [(4, (.v .bool .s e4))])) (K (.exit 0) (St.ofList []))
noncomputable def zXea : Code := match zrfa 4 (body Tryd.f10.body) with | some c => c | none => .skip
noncomputable def zsda : Loops := fun z i R st K => match z, i with
 | false, 4 => lpE ziha zHga (lpL zpia K) st
 | _, _ => none
theorem zbka : LStep zuba zsda inl0 zXea ziha zzka zIma zpia := fun R K rec x => by kernel_rfl
theorem zvla : zrha zuba zsda inl0 zXea := zWba zbka (p := zHga) (i := 4) (fun _ _ _ => ⟨rfl, rfl⟩) (by kernel_rfl) (fun R st K => by kernel_rfl)
theorem zAka : zZaa zuba zsda inl0 (body Tryd.f10.body) := by
 refine zCaa (fun c hc => ?_) (fun c hc => ?_)
 ·rw [show zlea (body Tryd.f10.body) = [zXea] by kernel_rfl] at hc
  simp only [List.mem_cons, List.not_mem_nil, or_false] at hc
  rcases hc with rfl
  ·exact zvla
 ·rw [show zmea zuba (body Tryd.f10.body) = [] by kernel_rfl] at hc; cases hc
noncomputable def zaca {R : Type} (a0 : List ((Int) × It3)) (a1 : List ((Int) × It3)) (K : Bool → Option R) : Option R :=
 let v1 := ((List.length a0 : Nat) : Int)
 let v2 := ((List.length a1 : Nat) : Int)
 let v3 := v1 != v2
 cond v3
 (K false)
 (loopN (zzba (fun w4 =>
 K w4) (K true)) zyfa ⟨a0, a1, (0 : Int)⟩)
noncomputable def zDfa : CSpec := { ins := [(.val (.sl 43 (.pair (.int .i64) (.pair (.sl 5 (.int .u8)) Ty5))) .s), (.val (.sl 43 (.pair (.int .i64) (.pair (.sl 5 (.int .u8)) Ty5))) .s)], outs := [(.bool, .s)], fn := fun (d : (List ((Int) × It3)) × (List ((Int) × It3)) × Unit) K _ => zaca d.1 d.2.1 (fun r0 => K ((r0, ()) : Bool × Unit) ((()) : Unit)) }
theorem zPja : Holds Tryd.prog 10 zDfa := zsaa (env := zuba) (inl := inl0) (lp := zsda) (rs := [(4, none)]) (code := body Tryd.f10.body) ⟨mixed, envTyOk.ty, envTyOk.eq⟩ zRka zTaa Tryd.func10 zAka (by kernel_rfl) (by kernel_rfl) (by kernel_rfl) (by kernel_rfl) (by kernel_rfl) (by kernel_rfl) fun d R K Kp => by kernel_rfl
noncomputable def zMea : List (FuncId × List FuncId × CSpec) := [(7, [], zPha), (8, [], ztea), (9, [], zXka), (10, [], zDfa)]
noncomputable def zcka : Nat → Bool
 | 15 => true
 | _ => false
noncomputable def zbfa : Env := { ty := envTy, eq := envEq, gam := (gamL zMea), n := Tryd.f3.ntmps, sb := zcka }
theorem zAia : EnvFn Tryd.prog zbfa := fun f gs c h => zKba (l := zMea) ⟨zama, zIha, zGpa, zPja, trivial⟩ f gs c h
noncomputable def zrda {R : Type} (a0 : List UInt8) (K : Bool → Option R) : Option R :=
 zFea fun r1 =>
 let v2 := !r1
 cond v2
 (K false)
 (let v3 := ((List.length a0 : Nat) : Int)
 let v4 := minI v3 (100000 : Int)
 cond (inR (0 : Int) v4 (List.length a0))
 (let v5 := rng a0 (0 : Int) v4
 zXaa v5 fun r6 r7 r8 =>
 zSfa v5 fun r9 r10 r11 =>
 zaca r6 r9 fun r12 =>
 cond r12
 (let v13 := r7 == r10
 cond v13
 (let v14 := r8 == r11
 K v14)
 (K false))
 (K false)) none)
noncomputable def zmka : CSpec := { ins := [(.val .str .s)], outs := [(.bool, .s)], fn := fun (d : (List UInt8) × Unit) K _ => zrda d.1 (fun r0 => K ((r0, ()) : Bool × Unit) ((()) : Unit)) }
theorem zsra : Holds Tryd.prog 3 zmka := zsaa (env := zbfa) (inl := inl0) (lp := lp0) (rs := [(2, none)]) (code := body Tryd.f3.body) ⟨mixed, envTyOk.ty, envTyOk.eq⟩ zAia zTaa Tryd.func3 (zraa (by kernel_rfl) (by kernel_rfl)) (by kernel_rfl) (by kernel_rfl) (by kernel_rfl) (by kernel_rfl) (by kernel_rfl) (by kernel_rfl) fun d R K Kp => by kernel_rfl
noncomputable def zdea : List (FuncId × List FuncId × CSpec) := [(7, [], zPha), (8, [], ztea), (10, [], zDfa)]
noncomputable def zEja : Nat → Bool
 | 9 => true
 | 13 => true
 | 15 => true
 | 17 => true
 | 22 => true
 | _ => false
noncomputable def zzja : Nat → Option (List Nat)
 | 0 => some [0, 1]
 | 1 => some [0, 1]
 | 2 => some []
 | 3 => some [0, 1]
 | 4 => some []
 | 5 => some [0, 1]
 | 6 => some [0, 1, 5]
 | 7 => some [0, 1, 5, 6, 7]
 | 8 => some [0, 1, 5, 6, 7, 8]
 | 9 => some [0, 1, 5, 6, 7, 8]
 | 10 => some [0, 1, 5, 6, 7, 8]
 | 11 => some [0, 1, 5, 6, 7, 8, 9]
 | 12 => some [0, 1, 5, 6, 7, 8]
 | 13 => some [0, 1, 5, 6, 7, 8, 9]
 | 14 => some [0, 1, 5, 6, 7, 8, 9]
 | 15 => some [0, 1, 5, 6, 7, 8, 9]
 | 16 => some [0, 1, 5, 6, 7, 8]
 | 17 => some [0, 1, 5, 6, 7, 8]
 | 18 => some [0, 1, 5, 6, 7, 8]
 | 19 => some [0, 1, 5, 6, 7, 8]
 | 20 => some [0, 1, 5, 7, 8]
 | 21 => some [0, 1, 5, 7, 8]
 | 22 => some [0, 1, 5, 6, 7, 8]
 | 23 => some []
 | 24 => some [0, 5]
 | 25 => some [5, 10, 11]
 | 26 => some [10, 11, 13, 14]
 | _ => none
noncomputable def zcaa : Env := { ty := envTy, eq := envEq, gam := (gamL zdea), n := Tryd.f4.ntmps, js := zEja, lv := zzja }
theorem zMha : EnvFn Tryd.prog zcaa := fun f gs c h => zKba (l := zdea) ⟨zama, zIha, zPja, trivial⟩ f gs c h
structure zpba where
 f0 : List UInt8
 f1 : List (Int)
 f5 : List UInt8
 f6 : Int
 f7 : Int
 f8 : Int
 f9 : Int
noncomputable def ztba {R : Type} (k_normal : (List UInt8) → (List (Int)) → (List UInt8) → Int → Int → Int → Int → Option R) (x : zpba) : Option R :=
 let v1 := ((List.length x.f1 : Nat) : Int)
 let v2 := decide (x.f7 < v1)
 cond v2
 (cond (inB x.f7 (List.length x.f1))
 (let v3 := List.getD x.f1 x.f7.toNat (0 : Int)
 k_normal x.f0 x.f1 x.f5 x.f6 x.f7 x.f8 v3) none)
 (k_normal x.f0 x.f1 x.f5 x.f6 x.f7 x.f8 x.f9)
noncomputable def zEia (x : zpba) : St := St.ofList [(0, (.v .str .s x.f0)), (1, (.v (.sl 5 (.int .u8)) .s x.f1)), (5, (.v .str .s x.f5)), (6, (.v (.int .i64) .s x.f6)), (7, (.v (.int .i64) .s x.f7)), (8, (.v (.int .i64) .s x.f8)), (9, (.v (.int .u8) .s x.f9))]
def zMga : Ex → List (Nat × Bool) | .normal => [(0, false), (1, false), (5, false), (6, false), (7, false), (8, false), (9, false)] | _ => []
def zgda : List (Nat × Bool) := [(0, false), (1, false), (5, false), (6, false), (7, false), (8, false), (9, false)]
noncomputable def zcda : Pt zpba := .s 0 (sV .str .s) fun y0 => .s 1 (sV (.sl 5 (.int .u8)) .s) fun y1 => .s 5 (sV .str .s) fun y5 => .s 6 (sV (.int .i64) .s) fun y6 => .s 7 (sV (.int .i64) .s) fun y7 => .s 8 (sV (.int .i64) .s) fun y8 => .s 9 (sV (.int .u8) .s) fun y9 => .e ⟨y0, y1, y5, y6, y7, y8, y9⟩
noncomputable def zyda (R : Type) (K : Ex → St → Option R) : zpba → Option R := ztba (fun e0 e1 e5 e6 e7 e8 e9 => K .normal (St.ofList [(0, (.v .str .s e0)), (1, (.v (.sl 5 (.int .u8)) .s e1)), (5, (.v .str .s e5)), (6, (.v (.int .i64) .s e6)), (7, (.v (.int .i64) .s e7)), (8, (.v (.int .i64) .s e8)), (9, (.v (.int .u8) .s e9))]))
noncomputable def zlca : Code := match joinC 13 (body Tryd.f4.body) with | some c => c | none => .skip
structure zoba where
 f0 : List UInt8
 f1 : List (Int)
 f5 : List UInt8
 f6 : Int
 f7 : Int
 f8 : Int
 f9 : Int
noncomputable def zsba {R : Type} (k_normal : (List UInt8) → (List (Int)) → (List UInt8) → Int → Int → Int → Int → Option R) (x : zoba) : Option R :=
 let v1 := x.f6 == (0 : Int)
 cond v1
 (let v2 := IntKind.u8.wrap ((BitVec.ofInt IntKind.u8.bits x.f9 &&& BitVec.ofInt IntKind.u8.bits (1 : Int)).toNat)
 let v3 := v2 == (1 : Int)
 cond v3
 (cond (decide (x.f5.length + ([35, 32, 114, 101, 97, 100, 10, 32, 10] : List UInt8).length ≤ most))
 (let v4 := x.f5 ++ ([35, 32, 114, 101, 97, 100, 10, 32, 10] : List UInt8)
 k_normal x.f0 x.f1 v4 x.f6 x.f7 x.f8 x.f9) none)
 (k_normal x.f0 x.f1 x.f5 x.f6 x.f7 x.f8 x.f9))
 (k_normal x.f0 x.f1 x.f5 x.f6 x.f7 x.f8 x.f9)
noncomputable def zDia (x : zoba) : St := St.ofList [(0, (.v .str .s x.f0)), (1, (.v (.sl 5 (.int .u8)) .s x.f1)), (5, (.v .str .s x.f5)), (6, (.v (.int .i64) .s x.f6)), (7, (.v (.int .i64) .s x.f7)), (8, (.v (.int .i64) .s x.f8)), (9, (.v (.int .u8) .s x.f9))]
def zLga : Ex → List (Nat × Bool) | .normal => [(0, false), (1, false), (5, false), (6, false), (7, false), (8, false), (9, false)] | _ => []
def zfda : List (Nat × Bool) := [(0, false), (1, false), (5, false), (6, false), (7, false), (8, false), (9, false)]
noncomputable def zbda : Pt zoba := .s 0 (sV .str .s) fun y0 => .s 1 (sV (.sl 5 (.int .u8)) .s) fun y1 => .s 5 (sV .str .s) fun y5 => .s 6 (sV (.int .i64) .s) fun y6 => .s 7 (sV (.int .i64) .s) fun y7 => .s 8 (sV (.int .i64) .s) fun y8 => .s 9 (sV (.int .u8) .s) fun y9 => .e ⟨y0, y1, y5, y6, y7, y8, y9⟩
noncomputable def zxda (R : Type) (K : Ex → St → Option R) : zoba → Option R := zsba (fun e0 e1 e5 e6 e7 e8 e9 => K .normal (St.ofList [(0, (.v .str .s e0)), (1, (.v (.sl 5 (.int .u8)) .s e1)), (5, (.v .str .s e5)), (6, (.v (.int .i64) .s e6)), (7, (.v (.int .i64) .s e7)), (8, (.v (.int .i64) .s e8)), (9, (.v (.int .u8) .s e9))]))
noncomputable def zkca : Code := match joinC 15 (body Tryd.f4.body) with | some c => c | none => .skip
structure znba where
 f0 : List UInt8
 f1 : List (Int)
 f5 : List UInt8
 f6 : Int
 f7 : Int
 f8 : Int
 f9 : Int
noncomputable def zrba {R : Type} (k_normal : (List UInt8) → (List (Int)) → (List UInt8) → Int → Int → Int → Option R) (x : znba) : Option R :=
 cond (inB x.f8 (List.length x.f0))
 (let v1 := bt x.f0 x.f8
 let v2 := v1 == (32 : Int)
 cond v2
 (let v3 := IntKind.u8.wrap ((BitVec.ofInt IntKind.u8.bits x.f9 &&& BitVec.ofInt IntKind.u8.bits (2 : Int)).toNat)
 let v4 := v3 == (2 : Int)
 cond v4
 (cond (decide (x.f5.length + ([32] : List UInt8).length ≤ most))
 (let v5 := x.f5 ++ ([32] : List UInt8)
 k_normal x.f0 x.f1 v5 x.f6 x.f7 x.f8) none)
 (k_normal x.f0 x.f1 x.f5 x.f6 x.f7 x.f8))
 (k_normal x.f0 x.f1 x.f5 x.f6 x.f7 x.f8)) none
noncomputable def zCia (x : znba) : St := St.ofList [(0, (.v .str .s x.f0)), (1, (.v (.sl 5 (.int .u8)) .s x.f1)), (5, (.v .str .s x.f5)), (6, (.v (.int .i64) .s x.f6)), (7, (.v (.int .i64) .s x.f7)), (8, (.v (.int .i64) .s x.f8)), (9, (.v (.int .u8) .s x.f9))]
def zKga : Ex → List (Nat × Bool) | .normal => [(0, false), (1, false), (5, false), (6, false), (7, false), (8, false)] | _ => []
def zeda : List (Nat × Bool) := [(0, false), (1, false), (5, false), (6, false), (7, false), (8, false), (9, false)]
noncomputable def zada : Pt znba := .s 0 (sV .str .s) fun y0 => .s 1 (sV (.sl 5 (.int .u8)) .s) fun y1 => .s 5 (sV .str .s) fun y5 => .s 6 (sV (.int .i64) .s) fun y6 => .s 7 (sV (.int .i64) .s) fun y7 => .s 8 (sV (.int .i64) .s) fun y8 => .s 9 (sV (.int .u8) .s) fun y9 => .e ⟨y0, y1, y5, y6, y7, y8, y9⟩
noncomputable def zwda (R : Type) (K : Ex → St → Option R) : znba → Option R := zrba (fun e0 e1 e5 e6 e7 e8 => K .normal (St.ofList [(0, (.v .str .s e0)), (1, (.v (.sl 5 (.int .u8)) .s e1)), (5, (.v .str .s e5)), (6, (.v (.int .i64) .s e6)), (7, (.v (.int .i64) .s e7)), (8, (.v (.int .i64) .s e8))]))
noncomputable def zjca : Code := match joinC 17 (body Tryd.f4.body) with | some c => c | none => .skip
structure zmba where
 f0 : List UInt8
 f1 : List (Int)
 f5 : List UInt8
 f6 : Int
 f7 : Int
 f8 : Int
noncomputable def zqba {R : Type} (k_normal : (List UInt8) → (List (Int)) → (List UInt8) → Int → Int → Int → Option R) (x : zmba) : Option R :=
 cond (inB x.f8 (List.length x.f0))
 (let v1 := bt x.f0 x.f8
 let v2 := v1 == (10 : Int)
 cond v2
 (let v3 := IntKind.i64.wrap (x.f7 + (1 : Int))
 k_normal x.f0 x.f1 x.f5 (0 : Int) v3 x.f8)
 (k_normal x.f0 x.f1 x.f5 x.f6 x.f7 x.f8)) none
noncomputable def zBia (x : zmba) : St := St.ofList [(0, (.v .str .s x.f0)), (1, (.v (.sl 5 (.int .u8)) .s x.f1)), (5, (.v .str .s x.f5)), (6, (.v (.int .i64) .s x.f6)), (7, (.v (.int .i64) .s x.f7)), (8, (.v (.int .i64) .s x.f8))]
def zJga : Ex → List (Nat × Bool) | .normal => [(0, false), (1, false), (5, false), (6, false), (7, false), (8, false)] | _ => []
def zdda : List (Nat × Bool) := [(0, false), (1, false), (5, false), (6, false), (7, false), (8, false)]
noncomputable def zZca : Pt zmba := .s 0 (sV .str .s) fun y0 => .s 1 (sV (.sl 5 (.int .u8)) .s) fun y1 => .s 5 (sV .str .s) fun y5 => .s 6 (sV (.int .i64) .s) fun y6 => .s 7 (sV (.int .i64) .s) fun y7 => .s 8 (sV (.int .i64) .s) fun y8 => .e ⟨y0, y1, y5, y6, y7, y8⟩
noncomputable def zvda (R : Type) (K : Ex → St → Option R) : zmba → Option R := zqba (fun e0 e1 e5 e6 e7 e8 => K .normal (St.ofList [(0, (.v .str .s e0)), (1, (.v (.sl 5 (.int .u8)) .s e1)), (5, (.v .str .s e5)), (6, (.v (.int .i64) .s e6)), (7, (.v (.int .i64) .s e7)), (8, (.v (.int .i64) .s e8))]))
noncomputable def zica : Code := match joinC 22 (body Tryd.f4.body) with | some c => c | none => .skip
structure zEba where
 f0 : List UInt8
 f1 : List (Int)
 f5 : List UInt8
 f6 : Int
 f7 : Int
 f8 : Int
noncomputable def zFba {R : Type} (k_ret : Bool → Option R) (k_normal : (List UInt8) → (List (Int)) → (List UInt8) → Int → Int → Int → Option R) (x : zEba) : Option R :=
 ztba (fun w1 w2 w3 w4 w5 w6 w7 =>
 zsba (fun w8 w9 w10 w11 w12 w13 w14 =>
 zrba (fun w15 w16 w17 w18 w19 w20 =>
 let v21 := IntKind.i64.wrap (w20 + (1 : Int))
 cond (inR w20 v21 (List.length w15))
 (let v22 := rng w15 w20 v21
 cond (decide (w17.length + v22.length ≤ most))
 (let v23 := w17 ++ v22
 let v24 := IntKind.i64.wrap (w18 + (1 : Int))
 zqba (fun w25 w26 w27 w28 w29 w30 =>
 let v31 := decide (w28 > (200 : Int))
 cond v31
 (k_ret true)
 (let v32 := decide (w29 > (80 : Int))
 cond v32
 (k_ret true)
 (k_normal w25 w26 w27 w28 w29 w30))) ⟨w15, w16, v23, v24, w19, w20⟩) none) none) ⟨w8, w9, w10, w11, w12, w13, w14⟩) ⟨w1, w2, w3, w4, w5, w6, w7⟩) ⟨x.f0, x.f1, x.f5, x.f6, x.f7, x.f8, (0 : Int)⟩
noncomputable def zsja (x : zEba) : St := St.ofList [(0, (.v .str .s x.f0)), (1, (.v (.sl 5 (.int .u8)) .s x.f1)), (5, (.v .str .s x.f5)), (6, (.v (.int .i64) .s x.f6)), (7, (.v (.int .i64) .s x.f7)), (8, (.v (.int .i64) .s x.f8))]
def zEha : Ex → List (Nat × Bool) | .ret => [(4, false)] | .normal => [(0, false), (1, false), (5, false), (6, false), (7, false), (8, false)] | _ => []
def zuda : List (Nat × Bool) := [(0, false), (1, false), (5, false), (6, false), (7, false), (8, false)]
noncomputable def ztda : Pt zEba := .s 0 (sV .str .s) fun y0 => .s 1 (sV (.sl 5 (.int .u8)) .s) fun y1 => .s 5 (sV .str .s) fun y5 => .s 6 (sV (.int .i64) .s) fun y6 => .s 7 (sV (.int .i64) .s) fun y7 => .s 8 (sV (.int .i64) .s) fun y8 => .e ⟨y0, y1, y5, y6, y7, y8⟩
noncomputable def zZda (R : Type) (K : Ex → St → Option R) : zEba → Option R := zFba (fun e4 => K .ret (St.ofList [(4, (.v .bool .s e4))])) (fun e0 e1 e5 e6 e7 e8 => K .normal (St.ofList [(0, (.v .str .s e0)), (1, (.v (.sl 5 (.int .u8)) .s e1)), (5, (.v .str .s e5)), (6, (.v (.int .i64) .s e6)), (7, (.v (.int .i64) .s e7)), (8, (.v (.int .i64) .s e8))]))
noncomputable def zqca : Code := match joinC 9 (body Tryd.f4.body) with | some c => c | none => .skip
structure zDaa where
 f0 : List UInt8
 f1 : List (Int)
 f5 : List UInt8
 f6 : Int
 f7 : Int
 f8 : Int
noncomputable def ztaa {R : Type} (k_ret : Bool → Option R) (k_exit_0 : (List UInt8) → (List UInt8) → Option R) (rec : zDaa → Option R) (x : zDaa) : Option R :=
 let v1 := ((List.length x.f0 : Nat) : Int)
 let v2 := decide (x.f8 < v1)
 cond v2
 (zFba (fun w3 =>
 k_ret w3) (fun w4 w5 w6 w7 w8 w9 =>
 let v10 := IntKind.i64.wrap (w9 + (1 : Int))
 rec ⟨w4, w5, w6, w7, w8, v10⟩) ⟨x.f0, x.f1, x.f5, x.f6, x.f7, x.f8⟩)
 (k_exit_0 x.f0 x.f5)
noncomputable def zrja (x : zDaa) : St := St.ofList [(0, (.v .str .s x.f0)), (1, (.v (.sl 5 (.int .u8)) .s x.f1)), (5, (.v .str .s x.f5)), (6, (.v (.int .i64) .s x.f6)), (7, (.v (.int .i64) .s x.f7)), (8, (.v (.int .i64) .s x.f8))]
def zzha : Ex → List (Nat × Bool) | .ret => [(4, false)] | .exit 0 => [(0, false), (5, false)] | _ => []
def zaea : List (Nat × Bool) := [(0, false), (1, false), (5, false), (6, false), (7, false), (8, false)]
noncomputable def zXda : Pt zDaa := .s 0 (sV .str .s) fun y0 => .s 1 (sV (.sl 5 (.int .u8)) .s) fun y1 => .s 5 (sV .str .s) fun y5 => .s 6 (sV (.int .i64) .s) fun y6 => .s 7 (sV (.int .i64) .s) fun y7 => .s 8 (sV (.int .i64) .s) fun y8 => .e ⟨y0, y1, y5, y6, y7, y8⟩
noncomputable def zQea (R : Type) (K : Ex → St → Option R) : (zDaa → Option R) → zDaa → Option R := ztaa (fun e4 => K .ret (St.ofList [(4, (.v .bool .s e4))])) (fun e0 e5 => K (.exit 0) (St.ofList [(0, (.v .str .s e0)), (5, (.v .str .s e5))]))
noncomputable def zsca : Code := match zrfa 8 (body Tryd.f4.body) with | some c => c | none => .skip
noncomputable def zdaa : Loops := fun z i R st K => match z, i with
 | false, 8 => lpE zaea zXda (lpL zQea K) st
 | true, 13 => lpE zgda zcda (zyda R K) st
 | true, 15 => lpE zfda zbda (zxda R K) st
 | true, 17 => lpE zeda zada (zwda R K) st
 | true, 22 => lpE zdda zZca (zvda R K) st
 | true, 9 => lpE zuda ztda (zZda R K) st
 | _, _ => none
theorem zMfa : JStep zcaa zdaa inl0 zlca zMga zEia zyda := fun R K x => by kernel_rfl
theorem zWga : zQfa zcaa zdaa inl0 zlca 13 := zkba (hd := zgda) zMfa (p := zcda) (fun _ _ _ _ _ _ _ => ⟨rfl, rfl⟩) (fun R st K => by kernel_rfl)
theorem zLfa : JStep zcaa zdaa inl0 zkca zLga zDia zxda := fun R K x => by kernel_rfl
theorem zVga : zQfa zcaa zdaa inl0 zkca 15 := zkba (hd := zfda) zLfa (p := zbda) (fun _ _ _ _ _ _ _ => ⟨rfl, rfl⟩) (fun R st K => by kernel_rfl)
theorem zKfa : JStep zcaa zdaa inl0 zjca zKga zCia zwda := fun R K x => by kernel_rfl
theorem zUga : zQfa zcaa zdaa inl0 zjca 17 := zkba (hd := zeda) zKfa (p := zada) (fun _ _ _ _ _ _ _ => ⟨rfl, rfl⟩) (fun R st K => by kernel_rfl)
theorem zJfa : JStep zcaa zdaa inl0 zica zJga zBia zvda := fun R K x => by kernel_rfl
theorem zTga : zQfa zcaa zdaa inl0 zica 22 := zkba (hd := zdda) zJfa (p := zZca) (fun _ _ _ _ _ _ => ⟨rfl, rfl⟩) (fun R st K => by kernel_rfl)
theorem zmga : JStep zcaa zdaa inl0 zqca zEha zsja zZda := fun R K x => by kernel_rfl
theorem zFha : zQfa zcaa zdaa inl0 zqca 9 := zkba (hd := zuda) zmga (p := ztda) (fun _ _ _ _ _ _ => ⟨rfl, rfl⟩) (fun R st K => by kernel_rfl)
theorem zAga : LStep zcaa zdaa inl0 zsca zaea zzha zrja zQea := fun R K rec x => by kernel_rfl
theorem ztia : zrha zcaa zdaa inl0 zsca := zWba zAga (p := zXda) (i := 8) (fun _ _ _ _ _ _ => ⟨rfl, rfl⟩) (by kernel_rfl) (fun R st K => by kernel_rfl)
theorem zDha : zZaa zcaa zdaa inl0 (body Tryd.f4.body) := by
 refine zCaa (fun c hc => ?_) (fun c hc => ?_)
 ·rw [show zlea (body Tryd.f4.body) = [zsca] by kernel_rfl] at hc
  simp only [List.mem_cons, List.not_mem_nil, or_false] at hc
  rcases hc with rfl
  ·exact ztia
 ·rw [show zmea zcaa (body Tryd.f4.body) = [(zica, 22), (zjca, 17), (zkca, 15), (zlca, 13), (zqca, 9)] by kernel_rfl] at hc
  simp only [List.mem_cons, List.not_mem_nil, or_false] at hc
  rcases hc with rfl | rfl | rfl | rfl | rfl
  ·exact zTga
  ·exact zUga
  ·exact zVga
  ·exact zWga
  ·exact zFha
noncomputable def zTba {R : Type} (a0 : List UInt8) (a1 : List (Int)) (K : Bool → Option R) : Option R :=
 zFea fun r1 =>
 let v2 := !r1
 cond v2
 (K false)
 (let v3 := ((List.length a0 : Nat) : Int)
 let v4 := decide (v3 > (20000 : Int))
 cond v4
 (K true)
 (loopN (ztaa (fun w5 =>
 K w5) (fun w6 w7 =>
 zXaa w6 fun r8 r9 r10 =>
 zXaa w7 fun r11 r12 r13 =>
 let v14 := r9 == r12
 cond v14
 (zaca r8 r11 fun r15 =>
 K r15)
 (K false))) zyfa ⟨a0, a1, ([] : List UInt8), (0 : Int), (0 : Int), (0 : Int)⟩))
noncomputable def cs_law26_ScriptBlanks : CSpec := { ins := [(.val .str .s), (.val (.sl 5 (.int .u8)) .s)], outs := [(.bool, .s)], fn := fun (d : (List UInt8) × (List (Int)) × Unit) K _ => zTba d.1 d.2.1 (fun r0 => K ((r0, ()) : Bool × Unit) ((()) : Unit)) }
theorem zlka : Holds Tryd.prog 4 cs_law26_ScriptBlanks := zsaa (env := zcaa) (inl := inl0) (lp := zdaa) (rs := [(4, none)]) (code := body Tryd.f4.body) ⟨mixed, envTyOk.ty, envTyOk.eq⟩ zMha zTaa Tryd.func4 zDha (by kernel_rfl) (by kernel_rfl) (by kernel_rfl) (by kernel_rfl) (by kernel_rfl) (by kernel_rfl) fun d R K Kp => by kernel_rfl
end Go.Trm.G1
