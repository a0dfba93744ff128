import Derived.Test.YtiooemenojlbjaaGreatTrmG1b
import Derived.Test.YtiooemenojlbjaaGreatProg
import Derived.KernelRfl
set_option linter.unusedVariables false
set_option linter.unusedSimpArgs false
namespace Go.Trm.G1
open Go.Proofs
set_option maxRecDepth 100000

-- f11 trammel/trammelref08.Same
noncomputable def gam_ref08_Same : FuncId → List FuncId → Option CSpec
  | 37, [] => some cs_ref05_SameInts
  | 38, [] => some cs_ref05_Same
  | 39, [] => some cs_ref06_SameAll
  | 40, [] => some cs_ref01_Same
  | _, _ => none
noncomputable def fz_ref08_Same : Nat → Bool
  | 2 => true
  | 3 => true
  | _ => false
noncomputable def lv_ref08_Same : Nat → Option (List Nat)
  | 0 => some [0, 1]
  | 1 => some [2, 3]
  | 2 => some []
  | 3 => some [2, 3]
  | 4 => some [2, 3, 5]
  | 5 => some [2, 3, 5, 6]
  | 6 => some [2, 3, 5, 6]
  | 7 => some [2, 3, 5, 6]
  | 8 => some [2, 3, 5]
  | 9 => some [2, 3, 5, 7]
  | 10 => some [2, 3, 5, 7]
  | 11 => some [2, 3, 5, 7]
  | 12 => some [2, 3, 5]
  | 13 => some [2, 3, 5, 8]
  | 14 => some [2, 3, 5, 8]
  | 15 => some [2, 3, 5, 8]
  | 16 => some [2, 3, 5]
  | 17 => some [2, 3, 5, 9]
  | 18 => some [2, 3, 5, 9]
  | 19 => some [2, 3, 5, 9]
  | 20 => some [2, 3, 5]
  | 21 => some [2, 3, 5, 10]
  | 22 => some [2, 3, 5, 10]
  | 23 => some [2, 3, 5, 10]
  | 24 => some [2, 3, 5]
  | 25 => some [2, 3, 5, 11]
  | 26 => some [2, 3, 5, 11]
  | 27 => some [2, 3, 5, 11]
  | 28 => some [2, 3, 5]
  | 29 => some [2, 3, 5, 12]
  | 30 => some [2, 3, 5, 12]
  | 31 => some [2, 3, 5, 12]
  | 32 => some [2, 3, 5]
  | 33 => some [2, 3, 5, 13]
  | 34 => some [2, 3, 5, 13]
  | 35 => some [2, 3, 5, 13]
  | 36 => some [2, 3, 5]
  | 37 => some [2, 3, 5, 14]
  | 38 => some [2, 3, 5, 14]
  | 39 => some [2, 3, 5, 14]
  | 40 => some [2, 3, 5]
  | 41 => some [2, 3, 5, 15]
  | 42 => some [2, 3, 5, 15]
  | 43 => some [2, 3, 5, 15]
  | 44 => some [5]
  | _ => none
noncomputable def env_ref08_Same : Env := { ty := envTy, eq := envEq, gam := gam_ref08_Same, n := Tryz.f11.ntmps, fz := fz_ref08_Same, lv := lv_ref08_Same }
theorem gamOk_ref08_Same : EnvFn Tryz.prog env_ref08_Same := by
  intro f gs c h
  unfold env_ref08_Same gam_ref08_Same at h
  simp only at h
  split at h <;> first | (cases h; done) | (cases h; exact h_ref05_SameInts) | (cases h; exact h_ref05_Same) | (cases h; exact h_ref06_SameAll) | (cases h; exact h_ref01_Same)
structure X_ref08_Same_5 where
  f2 : It7
  f3 : It7
  f5 : Bool
  f6 : Int

noncomputable def B_ref08_Same_5 {R : Type} (k_exit_0 : It7 → It7 → Bool → Option R) (rec : X_ref08_Same_5 → Option R) (x : X_ref08_Same_5) : Option R :=
  let v1 := ((List.length x.f2.1 : Nat) : Int)
  let v2 := decide (x.f6 < v1)
  cond v2
  (cond x.f5
  (cond (inB x.f6 (List.length x.f2.1))
  (let v3 := List.getD x.f2.1 x.f6.toNat (([] : List (Int)), (([] : List (Int)), ()))
  cond (inB x.f6 (List.length x.f3.1))
  (let v4 := List.getD x.f3.1 x.f6.toNat (([] : List (Int)), (([] : List (Int)), ()))
  p_ref05_Same v3 v4 fun r5 =>
  let v6 := IntKind.i64.wrap (x.f6 + (1 : Int))
  rec ⟨x.f2, x.f3, r5, v6⟩) none) none)
  (let v7 := IntKind.i64.wrap (x.f6 + (1 : Int))
  rec ⟨x.f2, x.f3, false, v7⟩))
  (k_exit_0 x.f2 x.f3 x.f5)
noncomputable def S_ref08_Same_5 (x : X_ref08_Same_5) : St := St.ofList [(2, (.v (.ptr 36 Ty21) .s (some x.f2))), (3, (.v (.ptr 36 Ty21) .s (some x.f3))), (5, (.v .bool .s x.f5)), (6, (.v (.int .i64) .s x.f6))]
def out_ref08_Same_5 : Ex → List (Nat × Bool) | .exit 0 => [(2, false), (3, false), (5, false)] | _ => []
noncomputable def fuel_ref08_Same_5 (x : X_ref08_Same_5) : Nat := fuel64
noncomputable def c_ref08_Same_5 : Code := match loopAt 5 (body Tryz.f11.body) with | some c => c | none => .skip
structure X_ref08_Same_9 where
  f2 : It7
  f3 : It7
  f5 : Bool
  f7 : Int

noncomputable def B_ref08_Same_9 {R : Type} (k_exit_2 : It7 → It7 → Bool → Option R) (rec : X_ref08_Same_9 → Option R) (x : X_ref08_Same_9) : Option R :=
  let v1 := ((List.length x.f2.2.1 : Nat) : Int)
  let v2 := decide (x.f7 < v1)
  cond v2
  (cond x.f5
  (cond (inB x.f7 (List.length x.f2.2.1))
  (let v3 := List.getD x.f2.2.1 x.f7.toNat (([] : List UInt8), (([] : List UInt8), ((0 : Int), ((0 : Int), (((0 : Int), (false, ((0 : Int), ()))), (false, ()))))))
  cond (inB x.f7 (List.length x.f3.2.1))
  (let v4 := List.getD x.f3.2.1 x.f7.toNat (([] : List UInt8), (([] : List UInt8), ((0 : Int), ((0 : Int), (((0 : Int), (false, ((0 : Int), ()))), (false, ()))))))
  let v5 := ((v3.1 == v4.1) && ((v3.2.1 == v4.2.1) && ((v3.2.2.1 == v4.2.2.1) && ((v3.2.2.2.1 == v4.2.2.2.1) && (((v3.2.2.2.2.1.1 == v4.2.2.2.2.1.1) && ((v3.2.2.2.2.1.2.1 == v4.2.2.2.2.1.2.1) && ((v3.2.2.2.2.1.2.2.1 == v4.2.2.2.2.1.2.2.1) && true))) && ((v3.2.2.2.2.2.1 == v4.2.2.2.2.2.1) && true))))))
  let v6 := IntKind.i64.wrap (x.f7 + (1 : Int))
  rec ⟨x.f2, x.f3, v5, v6⟩) none) none)
  (let v7 := IntKind.i64.wrap (x.f7 + (1 : Int))
  rec ⟨x.f2, x.f3, false, v7⟩))
  (k_exit_2 x.f2 x.f3 x.f5)
noncomputable def S_ref08_Same_9 (x : X_ref08_Same_9) : St := St.ofList [(2, (.v (.ptr 36 Ty21) .s (some x.f2))), (3, (.v (.ptr 36 Ty21) .s (some x.f3))), (5, (.v .bool .s x.f5)), (7, (.v (.int .i64) .s x.f7))]
def out_ref08_Same_9 : Ex → List (Nat × Bool) | .exit 2 => [(2, false), (3, false), (5, false)] | _ => []
noncomputable def fuel_ref08_Same_9 (x : X_ref08_Same_9) : Nat := fuel64
noncomputable def c_ref08_Same_9 : Code := match loopAt 9 (body Tryz.f11.body) with | some c => c | none => .skip
structure X_ref08_Same_13 where
  f2 : It7
  f3 : It7
  f5 : Bool
  f8 : Int

noncomputable def B_ref08_Same_13 {R : Type} (k_exit_4 : It7 → It7 → Bool → Option R) (rec : X_ref08_Same_13 → Option R) (x : X_ref08_Same_13) : Option R :=
  let v1 := ((List.length x.f2.2.2.1 : Nat) : Int)
  let v2 := decide (x.f8 < v1)
  cond v2
  (cond x.f5
  (cond (inB x.f8 (List.length x.f2.2.2.1))
  (let v3 := List.getD x.f2.2.2.1 x.f8.toNat ((0 : Int), (([] : List (Int)), (([] : List ((Int) × (Int) × (Int) × (Int) × (List (Int)) × Unit)), ())))
  cond (inB x.f8 (List.length x.f3.2.2.1))
  (let v4 := List.getD x.f3.2.2.1 x.f8.toNat ((0 : Int), (([] : List (Int)), (([] : List ((Int) × (Int) × (Int) × (Int) × (List (Int)) × Unit)), ())))
  let v5 := v3.1 == v4.1
  cond v5
  (cond (inB x.f8 (List.length x.f2.2.2.1))
  (let v6 := List.getD x.f2.2.2.1 x.f8.toNat ((0 : Int), (([] : List (Int)), (([] : List ((Int) × (Int) × (Int) × (Int) × (List (Int)) × Unit)), ())))
  cond (inB x.f8 (List.length x.f3.2.2.1))
  (let v7 := List.getD x.f3.2.2.1 x.f8.toNat ((0 : Int), (([] : List (Int)), (([] : List ((Int) × (Int) × (Int) × (Int) × (List (Int)) × Unit)), ())))
  p_ref05_SameInts v6.2.1 v7.2.1 fun r8 =>
  cond r8
  (cond (inB x.f8 (List.length x.f2.2.2.1))
  (let v9 := List.getD x.f2.2.2.1 x.f8.toNat ((0 : Int), (([] : List (Int)), (([] : List ((Int) × (Int) × (Int) × (Int) × (List (Int)) × Unit)), ())))
  cond (inB x.f8 (List.length x.f3.2.2.1))
  (let v10 := List.getD x.f3.2.2.1 x.f8.toNat ((0 : Int), (([] : List (Int)), (([] : List ((Int) × (Int) × (Int) × (Int) × (List (Int)) × Unit)), ())))
  p_ref06_SameAll v9.2.2.1 v10.2.2.1 fun r11 =>
  let v12 := IntKind.i64.wrap (x.f8 + (1 : Int))
  rec ⟨x.f2, x.f3, r11, v12⟩) none) none)
  (let v13 := IntKind.i64.wrap (x.f8 + (1 : Int))
  rec ⟨x.f2, x.f3, false, v13⟩)) none) none)
  (let v14 := IntKind.i64.wrap (x.f8 + (1 : Int))
  rec ⟨x.f2, x.f3, false, v14⟩)) none) none)
  (let v15 := IntKind.i64.wrap (x.f8 + (1 : Int))
  rec ⟨x.f2, x.f3, false, v15⟩))
  (k_exit_4 x.f2 x.f3 x.f5)
noncomputable def S_ref08_Same_13 (x : X_ref08_Same_13) : St := St.ofList [(2, (.v (.ptr 36 Ty21) .s (some x.f2))), (3, (.v (.ptr 36 Ty21) .s (some x.f3))), (5, (.v .bool .s x.f5)), (8, (.v (.int .i64) .s x.f8))]
def out_ref08_Same_13 : Ex → List (Nat × Bool) | .exit 4 => [(2, false), (3, false), (5, false)] | _ => []
noncomputable def fuel_ref08_Same_13 (x : X_ref08_Same_13) : Nat := fuel64
noncomputable def c_ref08_Same_13 : Code := match loopAt 13 (body Tryz.f11.body) with | some c => c | none => .skip
structure X_ref08_Same_17 where
  f2 : It7
  f3 : It7
  f5 : Bool
  f9 : Int

noncomputable def B_ref08_Same_17 {R : Type} (k_exit_6 : It7 → It7 → Bool → Option R) (rec : X_ref08_Same_17 → Option R) (x : X_ref08_Same_17) : Option R :=
  let v1 := ((List.length x.f2.2.2.2.1 : Nat) : Int)
  let v2 := decide (x.f9 < v1)
  cond v2
  (cond x.f5
  (cond (inB x.f9 (List.length x.f2.2.2.2.1))
  (let v3 := List.getD x.f2.2.2.2.1 x.f9.toNat ((0 : Int), (false, ((0 : Int), ())))
  cond (inB x.f9 (List.length x.f3.2.2.2.1))
  (let v4 := List.getD x.f3.2.2.2.1 x.f9.toNat ((0 : Int), (false, ((0 : Int), ())))
  let v5 := ((v3.1 == v4.1) && ((v3.2.1 == v4.2.1) && ((v3.2.2.1 == v4.2.2.1) && true)))
  let v6 := IntKind.i64.wrap (x.f9 + (1 : Int))
  rec ⟨x.f2, x.f3, v5, v6⟩) none) none)
  (let v7 := IntKind.i64.wrap (x.f9 + (1 : Int))
  rec ⟨x.f2, x.f3, false, v7⟩))
  (k_exit_6 x.f2 x.f3 x.f5)
noncomputable def S_ref08_Same_17 (x : X_ref08_Same_17) : St := St.ofList [(2, (.v (.ptr 36 Ty21) .s (some x.f2))), (3, (.v (.ptr 36 Ty21) .s (some x.f3))), (5, (.v .bool .s x.f5)), (9, (.v (.int .i64) .s x.f9))]
def out_ref08_Same_17 : Ex → List (Nat × Bool) | .exit 6 => [(2, false), (3, false), (5, false)] | _ => []
noncomputable def fuel_ref08_Same_17 (x : X_ref08_Same_17) : Nat := fuel64
noncomputable def c_ref08_Same_17 : Code := match loopAt 17 (body Tryz.f11.body) with | some c => c | none => .skip
structure X_ref08_Same_21 where
  f2 : It7
  f3 : It7
  f5 : Bool
  f10 : Int

noncomputable def B_ref08_Same_21 {R : Type} (k_exit_8 : It7 → It7 → Bool → Option R) (rec : X_ref08_Same_21 → Option R) (x : X_ref08_Same_21) : Option R :=
  let v1 := ((List.length x.f2.2.2.2.2.1 : Nat) : Int)
  let v2 := decide (x.f10 < v1)
  cond v2
  (cond x.f5
  (cond (inB x.f10 (List.length x.f2.2.2.2.2.1))
  (let v3 := List.getD x.f2.2.2.2.2.1 x.f10.toNat ((0 : Int), (false, ((0 : Int), ())))
  cond (inB x.f10 (List.length x.f3.2.2.2.2.1))
  (let v4 := List.getD x.f3.2.2.2.2.1 x.f10.toNat ((0 : Int), (false, ((0 : Int), ())))
  let v5 := ((v3.1 == v4.1) && ((v3.2.1 == v4.2.1) && ((v3.2.2.1 == v4.2.2.1) && true)))
  let v6 := IntKind.i64.wrap (x.f10 + (1 : Int))
  rec ⟨x.f2, x.f3, v5, v6⟩) none) none)
  (let v7 := IntKind.i64.wrap (x.f10 + (1 : Int))
  rec ⟨x.f2, x.f3, false, v7⟩))
  (k_exit_8 x.f2 x.f3 x.f5)
noncomputable def S_ref08_Same_21 (x : X_ref08_Same_21) : St := St.ofList [(2, (.v (.ptr 36 Ty21) .s (some x.f2))), (3, (.v (.ptr 36 Ty21) .s (some x.f3))), (5, (.v .bool .s x.f5)), (10, (.v (.int .i64) .s x.f10))]
def out_ref08_Same_21 : Ex → List (Nat × Bool) | .exit 8 => [(2, false), (3, false), (5, false)] | _ => []
noncomputable def fuel_ref08_Same_21 (x : X_ref08_Same_21) : Nat := fuel64
noncomputable def c_ref08_Same_21 : Code := match loopAt 21 (body Tryz.f11.body) with | some c => c | none => .skip
structure X_ref08_Same_25 where
  f2 : It7
  f3 : It7
  f5 : Bool
  f11 : Int

noncomputable def B_ref08_Same_25 {R : Type} (k_exit_10 : It7 → It7 → Bool → Option R) (rec : X_ref08_Same_25 → Option R) (x : X_ref08_Same_25) : Option R :=
  let v1 := ((List.length x.f2.2.2.2.2.2.1 : Nat) : Int)
  let v2 := decide (x.f11 < v1)
  cond v2
  (cond x.f5
  (cond (inB x.f11 (List.length x.f2.2.2.2.2.2.1))
  (let v3 := List.getD x.f2.2.2.2.2.2.1 x.f11.toNat ((0 : Int), (false, (([] : List ((Int) × (Int) × (Int) × (Int) × (List (Int)) × Unit)), ())))
  cond (inB x.f11 (List.length x.f3.2.2.2.2.2.1))
  (let v4 := List.getD x.f3.2.2.2.2.2.1 x.f11.toNat ((0 : Int), (false, (([] : List ((Int) × (Int) × (Int) × (Int) × (List (Int)) × Unit)), ())))
  let v5 := v3.1 == v4.1
  cond v5
  (cond (inB x.f11 (List.length x.f2.2.2.2.2.2.1))
  (let v6 := List.getD x.f2.2.2.2.2.2.1 x.f11.toNat ((0 : Int), (false, (([] : List ((Int) × (Int) × (Int) × (Int) × (List (Int)) × Unit)), ())))
  cond (inB x.f11 (List.length x.f3.2.2.2.2.2.1))
  (let v7 := List.getD x.f3.2.2.2.2.2.1 x.f11.toNat ((0 : Int), (false, (([] : List ((Int) × (Int) × (Int) × (Int) × (List (Int)) × Unit)), ())))
  let v8 := v6.2.1 == v7.2.1
  cond v8
  (cond (inB x.f11 (List.length x.f2.2.2.2.2.2.1))
  (let v9 := List.getD x.f2.2.2.2.2.2.1 x.f11.toNat ((0 : Int), (false, (([] : List ((Int) × (Int) × (Int) × (Int) × (List (Int)) × Unit)), ())))
  cond (inB x.f11 (List.length x.f3.2.2.2.2.2.1))
  (let v10 := List.getD x.f3.2.2.2.2.2.1 x.f11.toNat ((0 : Int), (false, (([] : List ((Int) × (Int) × (Int) × (Int) × (List (Int)) × Unit)), ())))
  p_ref06_SameAll v9.2.2.1 v10.2.2.1 fun r11 =>
  let v12 := IntKind.i64.wrap (x.f11 + (1 : Int))
  rec ⟨x.f2, x.f3, r11, v12⟩) none) none)
  (let v13 := IntKind.i64.wrap (x.f11 + (1 : Int))
  rec ⟨x.f2, x.f3, false, v13⟩)) none) none)
  (let v14 := IntKind.i64.wrap (x.f11 + (1 : Int))
  rec ⟨x.f2, x.f3, false, v14⟩)) none) none)
  (let v15 := IntKind.i64.wrap (x.f11 + (1 : Int))
  rec ⟨x.f2, x.f3, false, v15⟩))
  (k_exit_10 x.f2 x.f3 x.f5)
noncomputable def S_ref08_Same_25 (x : X_ref08_Same_25) : St := St.ofList [(2, (.v (.ptr 36 Ty21) .s (some x.f2))), (3, (.v (.ptr 36 Ty21) .s (some x.f3))), (5, (.v .bool .s x.f5)), (11, (.v (.int .i64) .s x.f11))]
def out_ref08_Same_25 : Ex → List (Nat × Bool) | .exit 10 => [(2, false), (3, false), (5, false)] | _ => []
noncomputable def fuel_ref08_Same_25 (x : X_ref08_Same_25) : Nat := fuel64
noncomputable def c_ref08_Same_25 : Code := match loopAt 25 (body Tryz.f11.body) with | some c => c | none => .skip
structure X_ref08_Same_29 where
  f2 : It7
  f3 : It7
  f5 : Bool
  f12 : Int

noncomputable def B_ref08_Same_29 {R : Type} (k_exit_12 : It7 → It7 → Bool → Option R) (rec : X_ref08_Same_29 → Option R) (x : X_ref08_Same_29) : Option R :=
  let v1 := ((List.length x.f2.2.2.2.2.2.2.1 : Nat) : Int)
  let v2 := decide (x.f12 < v1)
  cond v2
  (cond x.f5
  (cond (inB x.f12 (List.length x.f2.2.2.2.2.2.2.1))
  (let v3 := List.getD x.f2.2.2.2.2.2.2.1 x.f12.toNat (([] : List UInt8), ((0 : Int), ((0 : Int), ())))
  cond (inB x.f12 (List.length x.f3.2.2.2.2.2.2.1))
  (let v4 := List.getD x.f3.2.2.2.2.2.2.1 x.f12.toNat (([] : List UInt8), ((0 : Int), ((0 : Int), ())))
  let v5 := ((v3.1 == v4.1) && ((v3.2.1 == v4.2.1) && ((v3.2.2.1 == v4.2.2.1) && true)))
  let v6 := IntKind.i64.wrap (x.f12 + (1 : Int))
  rec ⟨x.f2, x.f3, v5, v6⟩) none) none)
  (let v7 := IntKind.i64.wrap (x.f12 + (1 : Int))
  rec ⟨x.f2, x.f3, false, v7⟩))
  (k_exit_12 x.f2 x.f3 x.f5)
noncomputable def S_ref08_Same_29 (x : X_ref08_Same_29) : St := St.ofList [(2, (.v (.ptr 36 Ty21) .s (some x.f2))), (3, (.v (.ptr 36 Ty21) .s (some x.f3))), (5, (.v .bool .s x.f5)), (12, (.v (.int .i64) .s x.f12))]
def out_ref08_Same_29 : Ex → List (Nat × Bool) | .exit 12 => [(2, false), (3, false), (5, false)] | _ => []
noncomputable def fuel_ref08_Same_29 (x : X_ref08_Same_29) : Nat := fuel64
noncomputable def c_ref08_Same_29 : Code := match loopAt 29 (body Tryz.f11.body) with | some c => c | none => .skip
structure X_ref08_Same_33 where
  f2 : It7
  f3 : It7
  f5 : Bool
  f13 : Int

noncomputable def B_ref08_Same_33 {R : Type} (k_exit_14 : It7 → It7 → Bool → Option R) (rec : X_ref08_Same_33 → Option R) (x : X_ref08_Same_33) : Option R :=
  let v1 := ((List.length x.f2.2.2.2.2.2.2.2.2.1 : Nat) : Int)
  let v2 := decide (x.f13 < v1)
  cond v2
  (cond x.f5
  (cond (inB x.f13 (List.length x.f2.2.2.2.2.2.2.2.2.1))
  (let v3 := List.getD x.f2.2.2.2.2.2.2.2.2.1 x.f13.toNat ((0 : Int), (([] : List ((Int) × (Int) × (Int) × (Int) × (List (Int)) × Unit)), (([] : List (Int)), ())))
  cond (inB x.f13 (List.length x.f3.2.2.2.2.2.2.2.2.1))
  (let v4 := List.getD x.f3.2.2.2.2.2.2.2.2.1 x.f13.toNat ((0 : Int), (([] : List ((Int) × (Int) × (Int) × (Int) × (List (Int)) × Unit)), (([] : List (Int)), ())))
  let v5 := v3.1 == v4.1
  cond v5
  (cond (inB x.f13 (List.length x.f2.2.2.2.2.2.2.2.2.1))
  (let v6 := List.getD x.f2.2.2.2.2.2.2.2.2.1 x.f13.toNat ((0 : Int), (([] : List ((Int) × (Int) × (Int) × (Int) × (List (Int)) × Unit)), (([] : List (Int)), ())))
  cond (inB x.f13 (List.length x.f3.2.2.2.2.2.2.2.2.1))
  (let v7 := List.getD x.f3.2.2.2.2.2.2.2.2.1 x.f13.toNat ((0 : Int), (([] : List ((Int) × (Int) × (Int) × (Int) × (List (Int)) × Unit)), (([] : List (Int)), ())))
  p_ref06_SameAll v6.2.1 v7.2.1 fun r8 =>
  cond r8
  (cond (inB x.f13 (List.length x.f2.2.2.2.2.2.2.2.2.1))
  (let v9 := List.getD x.f2.2.2.2.2.2.2.2.2.1 x.f13.toNat ((0 : Int), (([] : List ((Int) × (Int) × (Int) × (Int) × (List (Int)) × Unit)), (([] : List (Int)), ())))
  cond (inB x.f13 (List.length x.f3.2.2.2.2.2.2.2.2.1))
  (let v10 := List.getD x.f3.2.2.2.2.2.2.2.2.1 x.f13.toNat ((0 : Int), (([] : List ((Int) × (Int) × (Int) × (Int) × (List (Int)) × Unit)), (([] : List (Int)), ())))
  p_ref05_SameInts v9.2.2.1 v10.2.2.1 fun r11 =>
  let v12 := IntKind.i64.wrap (x.f13 + (1 : Int))
  rec ⟨x.f2, x.f3, r11, v12⟩) none) none)
  (let v13 := IntKind.i64.wrap (x.f13 + (1 : Int))
  rec ⟨x.f2, x.f3, false, v13⟩)) none) none)
  (let v14 := IntKind.i64.wrap (x.f13 + (1 : Int))
  rec ⟨x.f2, x.f3, false, v14⟩)) none) none)
  (let v15 := IntKind.i64.wrap (x.f13 + (1 : Int))
  rec ⟨x.f2, x.f3, false, v15⟩))
  (k_exit_14 x.f2 x.f3 x.f5)
noncomputable def S_ref08_Same_33 (x : X_ref08_Same_33) : St := St.ofList [(2, (.v (.ptr 36 Ty21) .s (some x.f2))), (3, (.v (.ptr 36 Ty21) .s (some x.f3))), (5, (.v .bool .s x.f5)), (13, (.v (.int .i64) .s x.f13))]
def out_ref08_Same_33 : Ex → List (Nat × Bool) | .exit 14 => [(2, false), (3, false), (5, false)] | _ => []
noncomputable def fuel_ref08_Same_33 (x : X_ref08_Same_33) : Nat := fuel64
noncomputable def c_ref08_Same_33 : Code := match loopAt 33 (body Tryz.f11.body) with | some c => c | none => .skip
structure X_ref08_Same_37 where
  f2 : It7
  f3 : It7
  f5 : Bool
  f14 : Int

noncomputable def B_ref08_Same_37 {R : Type} (k_exit_16 : It7 → It7 → Bool → Option R) (rec : X_ref08_Same_37 → Option R) (x : X_ref08_Same_37) : Option R :=
  let v1 := ((List.length x.f2.2.2.2.2.2.2.2.2.2.2.1 : Nat) : Int)
  let v2 := decide (x.f14 < v1)
  cond v2
  (cond x.f5
  (cond (inB x.f14 (List.length x.f2.2.2.2.2.2.2.2.2.2.2.1))
  (let v3 := List.getD x.f2.2.2.2.2.2.2.2.2.2.2.1 x.f14.toNat ((0 : Int), (([] : List ((Int) × (Int) × (Int) × (Int) × (List (Int)) × Unit)), (([] : List (Int)), ())))
  cond (inB x.f14 (List.length x.f3.2.2.2.2.2.2.2.2.2.2.1))
  (let v4 := List.getD x.f3.2.2.2.2.2.2.2.2.2.2.1 x.f14.toNat ((0 : Int), (([] : List ((Int) × (Int) × (Int) × (Int) × (List (Int)) × Unit)), (([] : List (Int)), ())))
  let v5 := v3.1 == v4.1
  cond v5
  (cond (inB x.f14 (List.length x.f2.2.2.2.2.2.2.2.2.2.2.1))
  (let v6 := List.getD x.f2.2.2.2.2.2.2.2.2.2.2.1 x.f14.toNat ((0 : Int), (([] : List ((Int) × (Int) × (Int) × (Int) × (List (Int)) × Unit)), (([] : List (Int)), ())))
  cond (inB x.f14 (List.length x.f3.2.2.2.2.2.2.2.2.2.2.1))
  (let v7 := List.getD x.f3.2.2.2.2.2.2.2.2.2.2.1 x.f14.toNat ((0 : Int), (([] : List ((Int) × (Int) × (Int) × (Int) × (List (Int)) × Unit)), (([] : List (Int)), ())))
  p_ref06_SameAll v6.2.1 v7.2.1 fun r8 =>
  cond r8
  (cond (inB x.f14 (List.length x.f2.2.2.2.2.2.2.2.2.2.2.1))
  (let v9 := List.getD x.f2.2.2.2.2.2.2.2.2.2.2.1 x.f14.toNat ((0 : Int), (([] : List ((Int) × (Int) × (Int) × (Int) × (List (Int)) × Unit)), (([] : List (Int)), ())))
  cond (inB x.f14 (List.length x.f3.2.2.2.2.2.2.2.2.2.2.1))
  (let v10 := List.getD x.f3.2.2.2.2.2.2.2.2.2.2.1 x.f14.toNat ((0 : Int), (([] : List ((Int) × (Int) × (Int) × (Int) × (List (Int)) × Unit)), (([] : List (Int)), ())))
  p_ref01_Same v9.2.2.1 v10.2.2.1 fun r11 =>
  let v12 := IntKind.i64.wrap (x.f14 + (1 : Int))
  rec ⟨x.f2, x.f3, r11, v12⟩) none) none)
  (let v13 := IntKind.i64.wrap (x.f14 + (1 : Int))
  rec ⟨x.f2, x.f3, false, v13⟩)) none) none)
  (let v14 := IntKind.i64.wrap (x.f14 + (1 : Int))
  rec ⟨x.f2, x.f3, false, v14⟩)) none) none)
  (let v15 := IntKind.i64.wrap (x.f14 + (1 : Int))
  rec ⟨x.f2, x.f3, false, v15⟩))
  (k_exit_16 x.f2 x.f3 x.f5)
noncomputable def S_ref08_Same_37 (x : X_ref08_Same_37) : St := St.ofList [(2, (.v (.ptr 36 Ty21) .s (some x.f2))), (3, (.v (.ptr 36 Ty21) .s (some x.f3))), (5, (.v .bool .s x.f5)), (14, (.v (.int .i64) .s x.f14))]
def out_ref08_Same_37 : Ex → List (Nat × Bool) | .exit 16 => [(2, false), (3, false), (5, false)] | _ => []
noncomputable def fuel_ref08_Same_37 (x : X_ref08_Same_37) : Nat := fuel64
noncomputable def c_ref08_Same_37 : Code := match loopAt 37 (body Tryz.f11.body) with | some c => c | none => .skip
structure X_ref08_Same_41 where
  f2 : It7
  f3 : It7
  f5 : Bool
  f15 : Int

noncomputable def B_ref08_Same_41 {R : Type} (k_exit_18 : Bool → Option R) (rec : X_ref08_Same_41 → Option R) (x : X_ref08_Same_41) : Option R :=
  let v1 := ((List.length x.f2.2.2.2.2.2.2.2.2.2.2.2.1 : Nat) : Int)
  let v2 := decide (x.f15 < v1)
  cond v2
  (cond x.f5
  (cond (inB x.f15 (List.length x.f2.2.2.2.2.2.2.2.2.2.2.2.1))
  (let v3 := List.getD x.f2.2.2.2.2.2.2.2.2.2.2.2.1 x.f15.toNat (([] : List UInt8), (([] : List (Int)), ()))
  cond (inB x.f15 (List.length x.f3.2.2.2.2.2.2.2.2.2.2.2.1))
  (let v4 := List.getD x.f3.2.2.2.2.2.2.2.2.2.2.2.1 x.f15.toNat (([] : List UInt8), (([] : List (Int)), ()))
  let v5 := v3.1 == v4.1
  cond v5
  (cond (inB x.f15 (List.length x.f2.2.2.2.2.2.2.2.2.2.2.2.1))
  (let v6 := List.getD x.f2.2.2.2.2.2.2.2.2.2.2.2.1 x.f15.toNat (([] : List UInt8), (([] : List (Int)), ()))
  cond (inB x.f15 (List.length x.f3.2.2.2.2.2.2.2.2.2.2.2.1))
  (let v7 := List.getD x.f3.2.2.2.2.2.2.2.2.2.2.2.1 x.f15.toNat (([] : List UInt8), (([] : List (Int)), ()))
  p_ref01_Same v6.2.1 v7.2.1 fun r8 =>
  let v9 := IntKind.i64.wrap (x.f15 + (1 : Int))
  rec ⟨x.f2, x.f3, r8, v9⟩) none) none)
  (let v10 := IntKind.i64.wrap (x.f15 + (1 : Int))
  rec ⟨x.f2, x.f3, false, v10⟩)) none) none)
  (let v11 := IntKind.i64.wrap (x.f15 + (1 : Int))
  rec ⟨x.f2, x.f3, false, v11⟩))
  (k_exit_18 x.f5)
noncomputable def S_ref08_Same_41 (x : X_ref08_Same_41) : St := St.ofList [(2, (.v (.ptr 36 Ty21) .s (some x.f2))), (3, (.v (.ptr 36 Ty21) .s (some x.f3))), (5, (.v .bool .s x.f5)), (15, (.v (.int .i64) .s x.f15))]
def out_ref08_Same_41 : Ex → List (Nat × Bool) | .exit 18 => [(5, false)] | _ => []
noncomputable def fuel_ref08_Same_41 (x : X_ref08_Same_41) : Nat := fuel64
noncomputable def c_ref08_Same_41 : Code := match loopAt 41 (body Tryz.f11.body) with | some c => c | none => .skip
noncomputable def lp_ref08_Same : Loops := fun z i R st K => match z, i with
  | false, 5 => coerce [(2, false), (3, false), (5, false), (6, false)] st (fun st => mP 36 Ty21 .s (st 2) fun y2 => mP 36 Ty21 .s (st 3) fun y3 => mV .bool .s (st 5) fun y5 => mV (.int .i64) .s (st 6) fun y6 => loopN (B_ref08_Same_5 (fun e2 e3 e5 => K (.exit 0) (St.ofList [(2, (.v (.ptr 36 Ty21) .s (some e2))), (3, (.v (.ptr 36 Ty21) .s (some e3))), (5, (.v .bool .s e5))]))) (fuel_ref08_Same_5 ⟨y2, y3, y5, y6⟩) ⟨y2, y3, y5, y6⟩)
  | false, 9 => coerce [(2, false), (3, false), (5, false), (7, false)] st (fun st => mP 36 Ty21 .s (st 2) fun y2 => mP 36 Ty21 .s (st 3) fun y3 => mV .bool .s (st 5) fun y5 => mV (.int .i64) .s (st 7) fun y7 => loopN (B_ref08_Same_9 (fun e2 e3 e5 => K (.exit 2) (St.ofList [(2, (.v (.ptr 36 Ty21) .s (some e2))), (3, (.v (.ptr 36 Ty21) .s (some e3))), (5, (.v .bool .s e5))]))) (fuel_ref08_Same_9 ⟨y2, y3, y5, y7⟩) ⟨y2, y3, y5, y7⟩)
  | false, 13 => coerce [(2, false), (3, false), (5, false), (8, false)] st (fun st => mP 36 Ty21 .s (st 2) fun y2 => mP 36 Ty21 .s (st 3) fun y3 => mV .bool .s (st 5) fun y5 => mV (.int .i64) .s (st 8) fun y8 => loopN (B_ref08_Same_13 (fun e2 e3 e5 => K (.exit 4) (St.ofList [(2, (.v (.ptr 36 Ty21) .s (some e2))), (3, (.v (.ptr 36 Ty21) .s (some e3))), (5, (.v .bool .s e5))]))) (fuel_ref08_Same_13 ⟨y2, y3, y5, y8⟩) ⟨y2, y3, y5, y8⟩)
  | false, 17 => coerce [(2, false), (3, false), (5, false), (9, false)] st (fun st => mP 36 Ty21 .s (st 2) fun y2 => mP 36 Ty21 .s (st 3) fun y3 => mV .bool .s (st 5) fun y5 => mV (.int .i64) .s (st 9) fun y9 => loopN (B_ref08_Same_17 (fun e2 e3 e5 => K (.exit 6) (St.ofList [(2, (.v (.ptr 36 Ty21) .s (some e2))), (3, (.v (.ptr 36 Ty21) .s (some e3))), (5, (.v .bool .s e5))]))) (fuel_ref08_Same_17 ⟨y2, y3, y5, y9⟩) ⟨y2, y3, y5, y9⟩)
  | false, 21 => coerce [(2, false), (3, false), (5, false), (10, false)] st (fun st => mP 36 Ty21 .s (st 2) fun y2 => mP 36 Ty21 .s (st 3) fun y3 => mV .bool .s (st 5) fun y5 => mV (.int .i64) .s (st 10) fun y10 => loopN (B_ref08_Same_21 (fun e2 e3 e5 => K (.exit 8) (St.ofList [(2, (.v (.ptr 36 Ty21) .s (some e2))), (3, (.v (.ptr 36 Ty21) .s (some e3))), (5, (.v .bool .s e5))]))) (fuel_ref08_Same_21 ⟨y2, y3, y5, y10⟩) ⟨y2, y3, y5, y10⟩)
  | false, 25 => coerce [(2, false), (3, false), (5, false), (11, false)] st (fun st => mP 36 Ty21 .s (st 2) fun y2 => mP 36 Ty21 .s (st 3) fun y3 => mV .bool .s (st 5) fun y5 => mV (.int .i64) .s (st 11) fun y11 => loopN (B_ref08_Same_25 (fun e2 e3 e5 => K (.exit 10) (St.ofList [(2, (.v (.ptr 36 Ty21) .s (some e2))), (3, (.v (.ptr 36 Ty21) .s (some e3))), (5, (.v .bool .s e5))]))) (fuel_ref08_Same_25 ⟨y2, y3, y5, y11⟩) ⟨y2, y3, y5, y11⟩)
  | false, 29 => coerce [(2, false), (3, false), (5, false), (12, false)] st (fun st => mP 36 Ty21 .s (st 2) fun y2 => mP 36 Ty21 .s (st 3) fun y3 => mV .bool .s (st 5) fun y5 => mV (.int .i64) .s (st 12) fun y12 => loopN (B_ref08_Same_29 (fun e2 e3 e5 => K (.exit 12) (St.ofList [(2, (.v (.ptr 36 Ty21) .s (some e2))), (3, (.v (.ptr 36 Ty21) .s (some e3))), (5, (.v .bool .s e5))]))) (fuel_ref08_Same_29 ⟨y2, y3, y5, y12⟩) ⟨y2, y3, y5, y12⟩)
  | false, 33 => coerce [(2, false), (3, false), (5, false), (13, false)] st (fun st => mP 36 Ty21 .s (st 2) fun y2 => mP 36 Ty21 .s (st 3) fun y3 => mV .bool .s (st 5) fun y5 => mV (.int .i64) .s (st 13) fun y13 => loopN (B_ref08_Same_33 (fun e2 e3 e5 => K (.exit 14) (St.ofList [(2, (.v (.ptr 36 Ty21) .s (some e2))), (3, (.v (.ptr 36 Ty21) .s (some e3))), (5, (.v .bool .s e5))]))) (fuel_ref08_Same_33 ⟨y2, y3, y5, y13⟩) ⟨y2, y3, y5, y13⟩)
  | false, 37 => coerce [(2, false), (3, false), (5, false), (14, false)] st (fun st => mP 36 Ty21 .s (st 2) fun y2 => mP 36 Ty21 .s (st 3) fun y3 => mV .bool .s (st 5) fun y5 => mV (.int .i64) .s (st 14) fun y14 => loopN (B_ref08_Same_37 (fun e2 e3 e5 => K (.exit 16) (St.ofList [(2, (.v (.ptr 36 Ty21) .s (some e2))), (3, (.v (.ptr 36 Ty21) .s (some e3))), (5, (.v .bool .s e5))]))) (fuel_ref08_Same_37 ⟨y2, y3, y5, y14⟩) ⟨y2, y3, y5, y14⟩)
  | false, 41 => coerce [(2, false), (3, false), (5, false), (15, false)] st (fun st => mP 36 Ty21 .s (st 2) fun y2 => mP 36 Ty21 .s (st 3) fun y3 => mV .bool .s (st 5) fun y5 => mV (.int .i64) .s (st 15) fun y15 => loopN (B_ref08_Same_41 (fun e5 => K (.exit 18) (St.ofList [(5, (.v .bool .s e5))]))) (fuel_ref08_Same_41 ⟨y2, y3, y5, y15⟩) ⟨y2, y3, y5, y15⟩)
  | _, _ => none
theorem step_ref08_Same_5 (R : Type) (K : Ex → St → Option R) (rec : St → Option R) (x : X_ref08_Same_5) : evC env_ref08_Same lp_ref08_Same inl0 c_ref08_Same_5 (S_ref08_Same_5 x) (fun e st => match e with | .normal => coerce [(2, false), (3, false), (5, false), (6, false)] st rec | e => coerce (out_ref08_Same_5 e) st (K e)) = B_ref08_Same_5 (fun e2 e3 e5 => K (.exit 0) (St.ofList [(2, (.v (.ptr 36 Ty21) .s (some e2))), (3, (.v (.ptr 36 Ty21) .s (some e3))), (5, (.v .bool .s e5))])) (fun x => rec (S_ref08_Same_5 x)) x := by kernel_rfl
theorem ok_ref08_Same_5 : LoopOk env_ref08_Same lp_ref08_Same inl0 c_ref08_Same_5 := by
  refine loopOk_of (hd := [(2, false), (3, false), (5, false), (6, false)]) (out := out_ref08_Same_5) (S := S_ref08_Same_5) (fun _ K => B_ref08_Same_5 (fun e2 e3 e5 => K (.exit 0) (St.ofList [(2, (.v (.ptr 36 Ty21) .s (some e2))), (3, (.v (.ptr 36 Ty21) .s (some e3))), (5, (.v .bool .s e5))]))) fuel_ref08_Same_5 5 step_ref08_Same_5 (by kernel_rfl) (fun R K => fun st => mP 36 Ty21 .s (st 2) fun y2 => mP 36 Ty21 .s (st 3) fun y3 => mV .bool .s (st 5) fun y5 => mV (.int .i64) .s (st 6) fun y6 => loopN (B_ref08_Same_5 (fun e2 e3 e5 => K (.exit 0) (St.ofList [(2, (.v (.ptr 36 Ty21) .s (some e2))), (3, (.v (.ptr 36 Ty21) .s (some e3))), (5, (.v .bool .s e5))]))) (fuel_ref08_Same_5 ⟨y2, y3, y5, y6⟩) ⟨y2, y3, y5, y6⟩) (fun R st K => by kernel_rfl) ?_
  intro R K st r h
  obtain ⟨y2, hy2, h⟩ := mP_inv h
  obtain ⟨y3, hy3, h⟩ := mP_inv h
  obtain ⟨y5, hy5, h⟩ := mV_inv h
  obtain ⟨y6, hy6, h⟩ := mV_inv h
  exact ⟨⟨y2, y3, y5, y6⟩, only_of_list (ofList_cons hy2 (ofList_cons hy3 (ofList_cons hy5 (ofList_cons hy6 rfl)))), h⟩
theorem step_ref08_Same_9 (R : Type) (K : Ex → St → Option R) (rec : St → Option R) (x : X_ref08_Same_9) : evC env_ref08_Same lp_ref08_Same inl0 c_ref08_Same_9 (S_ref08_Same_9 x) (fun e st => match e with | .normal => coerce [(2, false), (3, false), (5, false), (7, false)] st rec | e => coerce (out_ref08_Same_9 e) st (K e)) = B_ref08_Same_9 (fun e2 e3 e5 => K (.exit 2) (St.ofList [(2, (.v (.ptr 36 Ty21) .s (some e2))), (3, (.v (.ptr 36 Ty21) .s (some e3))), (5, (.v .bool .s e5))])) (fun x => rec (S_ref08_Same_9 x)) x := by kernel_rfl
theorem ok_ref08_Same_9 : LoopOk env_ref08_Same lp_ref08_Same inl0 c_ref08_Same_9 := by
  refine loopOk_of (hd := [(2, false), (3, false), (5, false), (7, false)]) (out := out_ref08_Same_9) (S := S_ref08_Same_9) (fun _ K => B_ref08_Same_9 (fun e2 e3 e5 => K (.exit 2) (St.ofList [(2, (.v (.ptr 36 Ty21) .s (some e2))), (3, (.v (.ptr 36 Ty21) .s (some e3))), (5, (.v .bool .s e5))]))) fuel_ref08_Same_9 9 step_ref08_Same_9 (by kernel_rfl) (fun R K => fun st => mP 36 Ty21 .s (st 2) fun y2 => mP 36 Ty21 .s (st 3) fun y3 => mV .bool .s (st 5) fun y5 => mV (.int .i64) .s (st 7) fun y7 => loopN (B_ref08_Same_9 (fun e2 e3 e5 => K (.exit 2) (St.ofList [(2, (.v (.ptr 36 Ty21) .s (some e2))), (3, (.v (.ptr 36 Ty21) .s (some e3))), (5, (.v .bool .s e5))]))) (fuel_ref08_Same_9 ⟨y2, y3, y5, y7⟩) ⟨y2, y3, y5, y7⟩) (fun R st K => by kernel_rfl) ?_
  intro R K st r h
  obtain ⟨y2, hy2, h⟩ := mP_inv h
  obtain ⟨y3, hy3, h⟩ := mP_inv h
  obtain ⟨y5, hy5, h⟩ := mV_inv h
  obtain ⟨y7, hy7, h⟩ := mV_inv h
  exact ⟨⟨y2, y3, y5, y7⟩, only_of_list (ofList_cons hy2 (ofList_cons hy3 (ofList_cons hy5 (ofList_cons hy7 rfl)))), h⟩
theorem step_ref08_Same_13 (R : Type) (K : Ex → St → Option R) (rec : St → Option R) (x : X_ref08_Same_13) : evC env_ref08_Same lp_ref08_Same inl0 c_ref08_Same_13 (S_ref08_Same_13 x) (fun e st => match e with | .normal => coerce [(2, false), (3, false), (5, false), (8, false)] st rec | e => coerce (out_ref08_Same_13 e) st (K e)) = B_ref08_Same_13 (fun e2 e3 e5 => K (.exit 4) (St.ofList [(2, (.v (.ptr 36 Ty21) .s (some e2))), (3, (.v (.ptr 36 Ty21) .s (some e3))), (5, (.v .bool .s e5))])) (fun x => rec (S_ref08_Same_13 x)) x := by kernel_rfl
theorem ok_ref08_Same_13 : LoopOk env_ref08_Same lp_ref08_Same inl0 c_ref08_Same_13 := by
  refine loopOk_of (hd := [(2, false), (3, false), (5, false), (8, false)]) (out := out_ref08_Same_13) (S := S_ref08_Same_13) (fun _ K => B_ref08_Same_13 (fun e2 e3 e5 => K (.exit 4) (St.ofList [(2, (.v (.ptr 36 Ty21) .s (some e2))), (3, (.v (.ptr 36 Ty21) .s (some e3))), (5, (.v .bool .s e5))]))) fuel_ref08_Same_13 13 step_ref08_Same_13 (by kernel_rfl) (fun R K => fun st => mP 36 Ty21 .s (st 2) fun y2 => mP 36 Ty21 .s (st 3) fun y3 => mV .bool .s (st 5) fun y5 => mV (.int .i64) .s (st 8) fun y8 => loopN (B_ref08_Same_13 (fun e2 e3 e5 => K (.exit 4) (St.ofList [(2, (.v (.ptr 36 Ty21) .s (some e2))), (3, (.v (.ptr 36 Ty21) .s (some e3))), (5, (.v .bool .s e5))]))) (fuel_ref08_Same_13 ⟨y2, y3, y5, y8⟩) ⟨y2, y3, y5, y8⟩) (fun R st K => by kernel_rfl) ?_
  intro R K st r h
  obtain ⟨y2, hy2, h⟩ := mP_inv h
  obtain ⟨y3, hy3, h⟩ := mP_inv h
  obtain ⟨y5, hy5, h⟩ := mV_inv h
  obtain ⟨y8, hy8, h⟩ := mV_inv h
  exact ⟨⟨y2, y3, y5, y8⟩, only_of_list (ofList_cons hy2 (ofList_cons hy3 (ofList_cons hy5 (ofList_cons hy8 rfl)))), h⟩
theorem step_ref08_Same_17 (R : Type) (K : Ex → St → Option R) (rec : St → Option R) (x : X_ref08_Same_17) : evC env_ref08_Same lp_ref08_Same inl0 c_ref08_Same_17 (S_ref08_Same_17 x) (fun e st => match e with | .normal => coerce [(2, false), (3, false), (5, false), (9, false)] st rec | e => coerce (out_ref08_Same_17 e) st (K e)) = B_ref08_Same_17 (fun e2 e3 e5 => K (.exit 6) (St.ofList [(2, (.v (.ptr 36 Ty21) .s (some e2))), (3, (.v (.ptr 36 Ty21) .s (some e3))), (5, (.v .bool .s e5))])) (fun x => rec (S_ref08_Same_17 x)) x := by kernel_rfl
theorem ok_ref08_Same_17 : LoopOk env_ref08_Same lp_ref08_Same inl0 c_ref08_Same_17 := by
  refine loopOk_of (hd := [(2, false), (3, false), (5, false), (9, false)]) (out := out_ref08_Same_17) (S := S_ref08_Same_17) (fun _ K => B_ref08_Same_17 (fun e2 e3 e5 => K (.exit 6) (St.ofList [(2, (.v (.ptr 36 Ty21) .s (some e2))), (3, (.v (.ptr 36 Ty21) .s (some e3))), (5, (.v .bool .s e5))]))) fuel_ref08_Same_17 17 step_ref08_Same_17 (by kernel_rfl) (fun R K => fun st => mP 36 Ty21 .s (st 2) fun y2 => mP 36 Ty21 .s (st 3) fun y3 => mV .bool .s (st 5) fun y5 => mV (.int .i64) .s (st 9) fun y9 => loopN (B_ref08_Same_17 (fun e2 e3 e5 => K (.exit 6) (St.ofList [(2, (.v (.ptr 36 Ty21) .s (some e2))), (3, (.v (.ptr 36 Ty21) .s (some e3))), (5, (.v .bool .s e5))]))) (fuel_ref08_Same_17 ⟨y2, y3, y5, y9⟩) ⟨y2, y3, y5, y9⟩) (fun R st K => by kernel_rfl) ?_
  intro R K st r h
  obtain ⟨y2, hy2, h⟩ := mP_inv h
  obtain ⟨y3, hy3, h⟩ := mP_inv h
  obtain ⟨y5, hy5, h⟩ := mV_inv h
  obtain ⟨y9, hy9, h⟩ := mV_inv h
  exact ⟨⟨y2, y3, y5, y9⟩, only_of_list (ofList_cons hy2 (ofList_cons hy3 (ofList_cons hy5 (ofList_cons hy9 rfl)))), h⟩
theorem step_ref08_Same_21 (R : Type) (K : Ex → St → Option R) (rec : St → Option R) (x : X_ref08_Same_21) : evC env_ref08_Same lp_ref08_Same inl0 c_ref08_Same_21 (S_ref08_Same_21 x) (fun e st => match e with | .normal => coerce [(2, false), (3, false), (5, false), (10, false)] st rec | e => coerce (out_ref08_Same_21 e) st (K e)) = B_ref08_Same_21 (fun e2 e3 e5 => K (.exit 8) (St.ofList [(2, (.v (.ptr 36 Ty21) .s (some e2))), (3, (.v (.ptr 36 Ty21) .s (some e3))), (5, (.v .bool .s e5))])) (fun x => rec (S_ref08_Same_21 x)) x := by kernel_rfl
theorem ok_ref08_Same_21 : LoopOk env_ref08_Same lp_ref08_Same inl0 c_ref08_Same_21 := by
  refine loopOk_of (hd := [(2, false), (3, false), (5, false), (10, false)]) (out := out_ref08_Same_21) (S := S_ref08_Same_21) (fun _ K => B_ref08_Same_21 (fun e2 e3 e5 => K (.exit 8) (St.ofList [(2, (.v (.ptr 36 Ty21) .s (some e2))), (3, (.v (.ptr 36 Ty21) .s (some e3))), (5, (.v .bool .s e5))]))) fuel_ref08_Same_21 21 step_ref08_Same_21 (by kernel_rfl) (fun R K => fun st => mP 36 Ty21 .s (st 2) fun y2 => mP 36 Ty21 .s (st 3) fun y3 => mV .bool .s (st 5) fun y5 => mV (.int .i64) .s (st 10) fun y10 => loopN (B_ref08_Same_21 (fun e2 e3 e5 => K (.exit 8) (St.ofList [(2, (.v (.ptr 36 Ty21) .s (some e2))), (3, (.v (.ptr 36 Ty21) .s (some e3))), (5, (.v .bool .s e5))]))) (fuel_ref08_Same_21 ⟨y2, y3, y5, y10⟩) ⟨y2, y3, y5, y10⟩) (fun R st K => by kernel_rfl) ?_
  intro R K st r h
  obtain ⟨y2, hy2, h⟩ := mP_inv h
  obtain ⟨y3, hy3, h⟩ := mP_inv h
  obtain ⟨y5, hy5, h⟩ := mV_inv h
  obtain ⟨y10, hy10, h⟩ := mV_inv h
  exact ⟨⟨y2, y3, y5, y10⟩, only_of_list (ofList_cons hy2 (ofList_cons hy3 (ofList_cons hy5 (ofList_cons hy10 rfl)))), h⟩
theorem step_ref08_Same_25 (R : Type) (K : Ex → St → Option R) (rec : St → Option R) (x : X_ref08_Same_25) : evC env_ref08_Same lp_ref08_Same inl0 c_ref08_Same_25 (S_ref08_Same_25 x) (fun e st => match e with | .normal => coerce [(2, false), (3, false), (5, false), (11, false)] st rec | e => coerce (out_ref08_Same_25 e) st (K e)) = B_ref08_Same_25 (fun e2 e3 e5 => K (.exit 10) (St.ofList [(2, (.v (.ptr 36 Ty21) .s (some e2))), (3, (.v (.ptr 36 Ty21) .s (some e3))), (5, (.v .bool .s e5))])) (fun x => rec (S_ref08_Same_25 x)) x := by kernel_rfl
theorem ok_ref08_Same_25 : LoopOk env_ref08_Same lp_ref08_Same inl0 c_ref08_Same_25 := by
  refine loopOk_of (hd := [(2, false), (3, false), (5, false), (11, false)]) (out := out_ref08_Same_25) (S := S_ref08_Same_25) (fun _ K => B_ref08_Same_25 (fun e2 e3 e5 => K (.exit 10) (St.ofList [(2, (.v (.ptr 36 Ty21) .s (some e2))), (3, (.v (.ptr 36 Ty21) .s (some e3))), (5, (.v .bool .s e5))]))) fuel_ref08_Same_25 25 step_ref08_Same_25 (by kernel_rfl) (fun R K => fun st => mP 36 Ty21 .s (st 2) fun y2 => mP 36 Ty21 .s (st 3) fun y3 => mV .bool .s (st 5) fun y5 => mV (.int .i64) .s (st 11) fun y11 => loopN (B_ref08_Same_25 (fun e2 e3 e5 => K (.exit 10) (St.ofList [(2, (.v (.ptr 36 Ty21) .s (some e2))), (3, (.v (.ptr 36 Ty21) .s (some e3))), (5, (.v .bool .s e5))]))) (fuel_ref08_Same_25 ⟨y2, y3, y5, y11⟩) ⟨y2, y3, y5, y11⟩) (fun R st K => by kernel_rfl) ?_
  intro R K st r h
  obtain ⟨y2, hy2, h⟩ := mP_inv h
  obtain ⟨y3, hy3, h⟩ := mP_inv h
  obtain ⟨y5, hy5, h⟩ := mV_inv h
  obtain ⟨y11, hy11, h⟩ := mV_inv h
  exact ⟨⟨y2, y3, y5, y11⟩, only_of_list (ofList_cons hy2 (ofList_cons hy3 (ofList_cons hy5 (ofList_cons hy11 rfl)))), h⟩
theorem step_ref08_Same_29 (R : Type) (K : Ex → St → Option R) (rec : St → Option R) (x : X_ref08_Same_29) : evC env_ref08_Same lp_ref08_Same inl0 c_ref08_Same_29 (S_ref08_Same_29 x) (fun e st => match e with | .normal => coerce [(2, false), (3, false), (5, false), (12, false)] st rec | e => coerce (out_ref08_Same_29 e) st (K e)) = B_ref08_Same_29 (fun e2 e3 e5 => K (.exit 12) (St.ofList [(2, (.v (.ptr 36 Ty21) .s (some e2))), (3, (.v (.ptr 36 Ty21) .s (some e3))), (5, (.v .bool .s e5))])) (fun x => rec (S_ref08_Same_29 x)) x := by kernel_rfl
theorem ok_ref08_Same_29 : LoopOk env_ref08_Same lp_ref08_Same inl0 c_ref08_Same_29 := by
  refine loopOk_of (hd := [(2, false), (3, false), (5, false), (12, false)]) (out := out_ref08_Same_29) (S := S_ref08_Same_29) (fun _ K => B_ref08_Same_29 (fun e2 e3 e5 => K (.exit 12) (St.ofList [(2, (.v (.ptr 36 Ty21) .s (some e2))), (3, (.v (.ptr 36 Ty21) .s (some e3))), (5, (.v .bool .s e5))]))) fuel_ref08_Same_29 29 step_ref08_Same_29 (by kernel_rfl) (fun R K => fun st => mP 36 Ty21 .s (st 2) fun y2 => mP 36 Ty21 .s (st 3) fun y3 => mV .bool .s (st 5) fun y5 => mV (.int .i64) .s (st 12) fun y12 => loopN (B_ref08_Same_29 (fun e2 e3 e5 => K (.exit 12) (St.ofList [(2, (.v (.ptr 36 Ty21) .s (some e2))), (3, (.v (.ptr 36 Ty21) .s (some e3))), (5, (.v .bool .s e5))]))) (fuel_ref08_Same_29 ⟨y2, y3, y5, y12⟩) ⟨y2, y3, y5, y12⟩) (fun R st K => by kernel_rfl) ?_
  intro R K st r h
  obtain ⟨y2, hy2, h⟩ := mP_inv h
  obtain ⟨y3, hy3, h⟩ := mP_inv h
  obtain ⟨y5, hy5, h⟩ := mV_inv h
  obtain ⟨y12, hy12, h⟩ := mV_inv h
  exact ⟨⟨y2, y3, y5, y12⟩, only_of_list (ofList_cons hy2 (ofList_cons hy3 (ofList_cons hy5 (ofList_cons hy12 rfl)))), h⟩
theorem step_ref08_Same_33 (R : Type) (K : Ex → St → Option R) (rec : St → Option R) (x : X_ref08_Same_33) : evC env_ref08_Same lp_ref08_Same inl0 c_ref08_Same_33 (S_ref08_Same_33 x) (fun e st => match e with | .normal => coerce [(2, false), (3, false), (5, false), (13, false)] st rec | e => coerce (out_ref08_Same_33 e) st (K e)) = B_ref08_Same_33 (fun e2 e3 e5 => K (.exit 14) (St.ofList [(2, (.v (.ptr 36 Ty21) .s (some e2))), (3, (.v (.ptr 36 Ty21) .s (some e3))), (5, (.v .bool .s e5))])) (fun x => rec (S_ref08_Same_33 x)) x := by kernel_rfl
theorem ok_ref08_Same_33 : LoopOk env_ref08_Same lp_ref08_Same inl0 c_ref08_Same_33 := by
  refine loopOk_of (hd := [(2, false), (3, false), (5, false), (13, false)]) (out := out_ref08_Same_33) (S := S_ref08_Same_33) (fun _ K => B_ref08_Same_33 (fun e2 e3 e5 => K (.exit 14) (St.ofList [(2, (.v (.ptr 36 Ty21) .s (some e2))), (3, (.v (.ptr 36 Ty21) .s (some e3))), (5, (.v .bool .s e5))]))) fuel_ref08_Same_33 33 step_ref08_Same_33 (by kernel_rfl) (fun R K => fun st => mP 36 Ty21 .s (st 2) fun y2 => mP 36 Ty21 .s (st 3) fun y3 => mV .bool .s (st 5) fun y5 => mV (.int .i64) .s (st 13) fun y13 => loopN (B_ref08_Same_33 (fun e2 e3 e5 => K (.exit 14) (St.ofList [(2, (.v (.ptr 36 Ty21) .s (some e2))), (3, (.v (.ptr 36 Ty21) .s (some e3))), (5, (.v .bool .s e5))]))) (fuel_ref08_Same_33 ⟨y2, y3, y5, y13⟩) ⟨y2, y3, y5, y13⟩) (fun R st K => by kernel_rfl) ?_
  intro R K st r h
  obtain ⟨y2, hy2, h⟩ := mP_inv h
  obtain ⟨y3, hy3, h⟩ := mP_inv h
  obtain ⟨y5, hy5, h⟩ := mV_inv h
  obtain ⟨y13, hy13, h⟩ := mV_inv h
  exact ⟨⟨y2, y3, y5, y13⟩, only_of_list (ofList_cons hy2 (ofList_cons hy3 (ofList_cons hy5 (ofList_cons hy13 rfl)))), h⟩
theorem step_ref08_Same_37 (R : Type) (K : Ex → St → Option R) (rec : St → Option R) (x : X_ref08_Same_37) : evC env_ref08_Same lp_ref08_Same inl0 c_ref08_Same_37 (S_ref08_Same_37 x) (fun e st => match e with | .normal => coerce [(2, false), (3, false), (5, false), (14, false)] st rec | e => coerce (out_ref08_Same_37 e) st (K e)) = B_ref08_Same_37 (fun e2 e3 e5 => K (.exit 16) (St.ofList [(2, (.v (.ptr 36 Ty21) .s (some e2))), (3, (.v (.ptr 36 Ty21) .s (some e3))), (5, (.v .bool .s e5))])) (fun x => rec (S_ref08_Same_37 x)) x := by kernel_rfl
theorem ok_ref08_Same_37 : LoopOk env_ref08_Same lp_ref08_Same inl0 c_ref08_Same_37 := by
  refine loopOk_of (hd := [(2, false), (3, false), (5, false), (14, false)]) (out := out_ref08_Same_37) (S := S_ref08_Same_37) (fun _ K => B_ref08_Same_37 (fun e2 e3 e5 => K (.exit 16) (St.ofList [(2, (.v (.ptr 36 Ty21) .s (some e2))), (3, (.v (.ptr 36 Ty21) .s (some e3))), (5, (.v .bool .s e5))]))) fuel_ref08_Same_37 37 step_ref08_Same_37 (by kernel_rfl) (fun R K => fun st => mP 36 Ty21 .s (st 2) fun y2 => mP 36 Ty21 .s (st 3) fun y3 => mV .bool .s (st 5) fun y5 => mV (.int .i64) .s (st 14) fun y14 => loopN (B_ref08_Same_37 (fun e2 e3 e5 => K (.exit 16) (St.ofList [(2, (.v (.ptr 36 Ty21) .s (some e2))), (3, (.v (.ptr 36 Ty21) .s (some e3))), (5, (.v .bool .s e5))]))) (fuel_ref08_Same_37 ⟨y2, y3, y5, y14⟩) ⟨y2, y3, y5, y14⟩) (fun R st K => by kernel_rfl) ?_
  intro R K st r h
  obtain ⟨y2, hy2, h⟩ := mP_inv h
  obtain ⟨y3, hy3, h⟩ := mP_inv h
  obtain ⟨y5, hy5, h⟩ := mV_inv h
  obtain ⟨y14, hy14, h⟩ := mV_inv h
  exact ⟨⟨y2, y3, y5, y14⟩, only_of_list (ofList_cons hy2 (ofList_cons hy3 (ofList_cons hy5 (ofList_cons hy14 rfl)))), h⟩
theorem step_ref08_Same_41 (R : Type) (K : Ex → St → Option R) (rec : St → Option R) (x : X_ref08_Same_41) : evC env_ref08_Same lp_ref08_Same inl0 c_ref08_Same_41 (S_ref08_Same_41 x) (fun e st => match e with | .normal => coerce [(2, false), (3, false), (5, false), (15, false)] st rec | e => coerce (out_ref08_Same_41 e) st (K e)) = B_ref08_Same_41 (fun e5 => K (.exit 18) (St.ofList [(5, (.v .bool .s e5))])) (fun x => rec (S_ref08_Same_41 x)) x := by kernel_rfl
theorem ok_ref08_Same_41 : LoopOk env_ref08_Same lp_ref08_Same inl0 c_ref08_Same_41 := by
  refine loopOk_of (hd := [(2, false), (3, false), (5, false), (15, false)]) (out := out_ref08_Same_41) (S := S_ref08_Same_41) (fun _ K => B_ref08_Same_41 (fun e5 => K (.exit 18) (St.ofList [(5, (.v .bool .s e5))]))) fuel_ref08_Same_41 41 step_ref08_Same_41 (by kernel_rfl) (fun R K => fun st => mP 36 Ty21 .s (st 2) fun y2 => mP 36 Ty21 .s (st 3) fun y3 => mV .bool .s (st 5) fun y5 => mV (.int .i64) .s (st 15) fun y15 => loopN (B_ref08_Same_41 (fun e5 => K (.exit 18) (St.ofList [(5, (.v .bool .s e5))]))) (fuel_ref08_Same_41 ⟨y2, y3, y5, y15⟩) ⟨y2, y3, y5, y15⟩) (fun R st K => by kernel_rfl) ?_
  intro R K st r h
  obtain ⟨y2, hy2, h⟩ := mP_inv h
  obtain ⟨y3, hy3, h⟩ := mP_inv h
  obtain ⟨y5, hy5, h⟩ := mV_inv h
  obtain ⟨y15, hy15, h⟩ := mV_inv h
  exact ⟨⟨y2, y3, y5, y15⟩, only_of_list (ofList_cons hy2 (ofList_cons hy3 (ofList_cons hy5 (ofList_cons hy15 rfl)))), h⟩
theorem loops_ref08_Same : LoopsOk env_ref08_Same lp_ref08_Same inl0 (body Tryz.f11.body) := by
  refine loopsOk_of (fun c hc => ?_) (fun c hc => ?_)
  · rw [show loopsL (body Tryz.f11.body) = [c_ref08_Same_5, c_ref08_Same_9, c_ref08_Same_13, c_ref08_Same_17, c_ref08_Same_21, c_ref08_Same_25, c_ref08_Same_29, c_ref08_Same_33, c_ref08_Same_37, c_ref08_Same_41] by kernel_rfl] at hc
    simp only [List.mem_cons, List.not_mem_nil, or_false] at hc
    rcases hc with rfl | rfl | rfl | rfl | rfl | rfl | rfl | rfl | rfl | rfl
    · exact ok_ref08_Same_5
    · exact ok_ref08_Same_9
    · exact ok_ref08_Same_13
    · exact ok_ref08_Same_17
    · exact ok_ref08_Same_21
    · exact ok_ref08_Same_25
    · exact ok_ref08_Same_29
    · exact ok_ref08_Same_33
    · exact ok_ref08_Same_37
    · exact ok_ref08_Same_41
  · rw [show joinsL env_ref08_Same (body Tryz.f11.body) = [] by kernel_rfl] at hc; cases hc
noncomputable def p_ref08_Same {R : Type} (a0 : It7) (a1 : It7) (K : Bool → Option R) : Option R :=
  let v1 := ((List.length a0.1 : Nat) : Int)
  let v2 := ((List.length a1.1 : Nat) : Int)
  let v3 := v1 != v2
  cond v3
  (K false)
  (let v4 := ((List.length a0.2.1 : Nat) : Int)
  let v5 := ((List.length a1.2.1 : Nat) : Int)
  let v6 := v4 != v5
  cond v6
  (K false)
  (let v7 := ((List.length a0.2.2.1 : Nat) : Int)
  let v8 := ((List.length a1.2.2.1 : Nat) : Int)
  let v9 := v7 != v8
  cond v9
  (K false)
  (let v10 := ((List.length a0.2.2.2.1 : Nat) : Int)
  let v11 := ((List.length a1.2.2.2.1 : Nat) : Int)
  let v12 := v10 != v11
  cond v12
  (K false)
  (let v13 := ((List.length a0.2.2.2.2.1 : Nat) : Int)
  let v14 := ((List.length a1.2.2.2.2.1 : Nat) : Int)
  let v15 := v13 != v14
  cond v15
  (K false)
  (let v16 := ((List.length a0.2.2.2.2.2.1 : Nat) : Int)
  let v17 := ((List.length a1.2.2.2.2.2.1 : Nat) : Int)
  let v18 := v16 != v17
  cond v18
  (K false)
  (let v19 := ((List.length a0.2.2.2.2.2.2.1 : Nat) : Int)
  let v20 := ((List.length a1.2.2.2.2.2.2.1 : Nat) : Int)
  let v21 := v19 != v20
  cond v21
  (K false)
  (let v22 := ((List.length a0.2.2.2.2.2.2.2.2.1 : Nat) : Int)
  let v23 := ((List.length a1.2.2.2.2.2.2.2.2.1 : Nat) : Int)
  let v24 := v22 != v23
  cond v24
  (K false)
  (let v25 := ((List.length a0.2.2.2.2.2.2.2.2.2.2.1 : Nat) : Int)
  let v26 := ((List.length a1.2.2.2.2.2.2.2.2.2.2.1 : Nat) : Int)
  let v27 := v25 != v26
  cond v27
  (K false)
  (let v28 := ((List.length a0.2.2.2.2.2.2.2.2.2.2.2.1 : Nat) : Int)
  let v29 := ((List.length a1.2.2.2.2.2.2.2.2.2.2.2.1 : Nat) : Int)
  let v30 := v28 != v29
  cond v30
  (K false)
  (p_ref05_SameInts a0.2.2.2.2.2.2.2.1 a1.2.2.2.2.2.2.2.1 fun r31 =>
  cond r31
  (p_ref05_SameInts a0.2.2.2.2.2.2.2.2.2.1 a1.2.2.2.2.2.2.2.2.2.1 fun r32 =>
  loopN (B_ref08_Same_5 (fun w33 w34 w35 =>
  loopN (B_ref08_Same_9 (fun w36 w37 w38 =>
  loopN (B_ref08_Same_13 (fun w39 w40 w41 =>
  loopN (B_ref08_Same_17 (fun w42 w43 w44 =>
  loopN (B_ref08_Same_21 (fun w45 w46 w47 =>
  loopN (B_ref08_Same_25 (fun w48 w49 w50 =>
  loopN (B_ref08_Same_29 (fun w51 w52 w53 =>
  loopN (B_ref08_Same_33 (fun w54 w55 w56 =>
  loopN (B_ref08_Same_37 (fun w57 w58 w59 =>
  loopN (B_ref08_Same_41 (fun w60 =>
  K w60)) (fuel_ref08_Same_41 ⟨w57, w58, w59, (0 : Int)⟩) ⟨w57, w58, w59, (0 : Int)⟩)) (fuel_ref08_Same_37 ⟨w54, w55, w56, (0 : Int)⟩) ⟨w54, w55, w56, (0 : Int)⟩)) (fuel_ref08_Same_33 ⟨w51, w52, w53, (0 : Int)⟩) ⟨w51, w52, w53, (0 : Int)⟩)) (fuel_ref08_Same_29 ⟨w48, w49, w50, (0 : Int)⟩) ⟨w48, w49, w50, (0 : Int)⟩)) (fuel_ref08_Same_25 ⟨w45, w46, w47, (0 : Int)⟩) ⟨w45, w46, w47, (0 : Int)⟩)) (fuel_ref08_Same_21 ⟨w42, w43, w44, (0 : Int)⟩) ⟨w42, w43, w44, (0 : Int)⟩)) (fuel_ref08_Same_17 ⟨w39, w40, w41, (0 : Int)⟩) ⟨w39, w40, w41, (0 : Int)⟩)) (fuel_ref08_Same_13 ⟨w36, w37, w38, (0 : Int)⟩) ⟨w36, w37, w38, (0 : Int)⟩)) (fuel_ref08_Same_9 ⟨w33, w34, w35, (0 : Int)⟩) ⟨w33, w34, w35, (0 : Int)⟩)) (fuel_ref08_Same_5 ⟨a0, a1, r32, (0 : Int)⟩) ⟨a0, a1, r32, (0 : Int)⟩)
  (loopN (B_ref08_Same_5 (fun w61 w62 w63 =>
  loopN (B_ref08_Same_9 (fun w64 w65 w66 =>
  loopN (B_ref08_Same_13 (fun w67 w68 w69 =>
  loopN (B_ref08_Same_17 (fun w70 w71 w72 =>
  loopN (B_ref08_Same_21 (fun w73 w74 w75 =>
  loopN (B_ref08_Same_25 (fun w76 w77 w78 =>
  loopN (B_ref08_Same_29 (fun w79 w80 w81 =>
  loopN (B_ref08_Same_33 (fun w82 w83 w84 =>
  loopN (B_ref08_Same_37 (fun w85 w86 w87 =>
  loopN (B_ref08_Same_41 (fun w88 =>
  K w88)) (fuel_ref08_Same_41 ⟨w85, w86, w87, (0 : Int)⟩) ⟨w85, w86, w87, (0 : Int)⟩)) (fuel_ref08_Same_37 ⟨w82, w83, w84, (0 : Int)⟩) ⟨w82, w83, w84, (0 : Int)⟩)) (fuel_ref08_Same_33 ⟨w79, w80, w81, (0 : Int)⟩) ⟨w79, w80, w81, (0 : Int)⟩)) (fuel_ref08_Same_29 ⟨w76, w77, w78, (0 : Int)⟩) ⟨w76, w77, w78, (0 : Int)⟩)) (fuel_ref08_Same_25 ⟨w73, w74, w75, (0 : Int)⟩) ⟨w73, w74, w75, (0 : Int)⟩)) (fuel_ref08_Same_21 ⟨w70, w71, w72, (0 : Int)⟩) ⟨w70, w71, w72, (0 : Int)⟩)) (fuel_ref08_Same_17 ⟨w67, w68, w69, (0 : Int)⟩) ⟨w67, w68, w69, (0 : Int)⟩)) (fuel_ref08_Same_13 ⟨w64, w65, w66, (0 : Int)⟩) ⟨w64, w65, w66, (0 : Int)⟩)) (fuel_ref08_Same_9 ⟨w61, w62, w63, (0 : Int)⟩) ⟨w61, w62, w63, (0 : Int)⟩)) (fuel_ref08_Same_5 ⟨a0, a1, false, (0 : Int)⟩) ⟨a0, a1, false, (0 : Int)⟩)))))))))))
noncomputable def cs_ref08_Same : CSpec := { ins := [(.val Ty21 .s), (.val Ty21 .s)], outs := [(.bool, .s)], fn := fun (d : It7 × It7 × Unit) K _ => p_ref08_Same d.1 d.2.1 (fun r0 => K ((r0, ()) : Bool × Unit) ((()) : Unit)) }
theorem h_ref08_Same : Holds Tryz.prog 11 cs_ref08_Same := by
  refine holds_of (env := env_ref08_Same) (inl := inl0) (fn := Tryz.f11) (code := body Tryz.f11.body) (rs := [(4, none)]) (lp := lp_ref08_Same) mixed ⟨envTyOk.ty, envTyOk.eq⟩ gamOk_ref08_Same inl0_ok Tryz.func11 (by kernel_rfl) (by kernel_rfl) (by kernel_rfl) (by kernel_rfl) (by kernel_rfl) loops_ref08_Same (by kernel_rfl) ?_
  intro d R K Kp res h
  have : evC env_ref08_Same lp_ref08_Same inl0 (body Tryz.f11.body) (St.start cs_ref08_Same.ins d) (retK env_ref08_Same cs_ref08_Same.ins cs_ref08_Same.outs [(4, none)] cs_ref08_Same.pan K Kp) = cs_ref08_Same.fn d K Kp := by kernel_rfl
  rw [this]; exact h
-- f4 trammel/trammellaw11.LoadSame
noncomputable def gam_law11_LoadSame : FuncId → List FuncId → Option CSpec
  | 6, [] => some cs_law11_awake
  | 9, [] => some cs_ref08_Short
  | 10, [] => some cs_load_Same
  | 11, [] => some cs_ref08_Same
  | _, _ => none
noncomputable def fz_law11_LoadSame : Nat → Bool
  | 2 => true
  | 3 => true
  | _ => false
noncomputable def env_law11_LoadSame : Env := { ty := envTy, eq := envEq, gam := gam_law11_LoadSame, n := Tryz.f4.ntmps, fz := fz_law11_LoadSame }
theorem gamOk_law11_LoadSame : EnvFn Tryz.prog env_law11_LoadSame := by
  intro f gs c h
  unfold env_law11_LoadSame gam_law11_LoadSame at h
  simp only at h
  split at h <;> first | (cases h; done) | (cases h; exact h_law11_awake) | (cases h; exact h_ref08_Short) | (cases h; exact h_load_Same) | (cases h; exact h_ref08_Same)
noncomputable def p_law11_LoadSame {R : Type} (a0 : It7) (a1 : It7) (K : Bool → Option R) : Option R :=
  p_law11_awake fun r1 =>
  let v2 := !r1
  cond v2
  (K false)
  (p_ref08_Short a0 fun r3 =>
  let v4 := !r3
  cond v4
  (K true)
  (p_ref08_Short a1 fun r5 =>
  let v6 := !r5
  cond v6
  (K true)
  (p_load_Same a0 a1 fun r7 =>
  p_ref08_Same a0 a1 fun r8 =>
  let v9 := r7 == r8
  cond v9
  (p_load_Same a0 a0 fun r10 =>
  cond r10
  (p_load_Same a0 a1 fun r11 =>
  p_load_Same a1 a0 fun r12 =>
  let v13 := r11 == r12
  K v13)
  (K false))
  (K false))))
noncomputable def cs_law11_LoadSame : CSpec := { ins := [(.val Ty21 .s), (.val Ty21 .s)], outs := [(.bool, .s)], fn := fun (d : It7 × It7 × Unit) K _ => p_law11_LoadSame d.1 d.2.1 (fun r0 => K ((r0, ()) : Bool × Unit) ((()) : Unit)) }
theorem h_law11_LoadSame : Holds Tryz.prog 4 cs_law11_LoadSame := by
  refine holds_of (env := env_law11_LoadSame) (inl := inl0) (fn := Tryz.f4) (code := body Tryz.f4.body) (rs := [(4, none)]) (lp := lp0) mixed ⟨envTyOk.ty, envTyOk.eq⟩ gamOk_law11_LoadSame inl0_ok Tryz.func4 (by kernel_rfl) (by kernel_rfl) (by kernel_rfl) (by kernel_rfl) (by kernel_rfl) (loopsOk_none (by kernel_rfl) (by kernel_rfl)) (by kernel_rfl) ?_
  intro d R K Kp res h
  have : evC env_law11_LoadSame lp0 inl0 (body Tryz.f4.body) (St.start cs_law11_LoadSame.ins d) (retK env_law11_LoadSame cs_law11_LoadSame.ins cs_law11_LoadSame.outs [(4, none)] cs_law11_LoadSame.pan K Kp) = cs_law11_LoadSame.fn d K Kp := by kernel_rfl
  rw [this]; exact h
-- f7 trammel/trammelref01.Copy
noncomputable def env_ref01_Copy : Env := { ty := envTy, eq := envEq, gam := noG, n := Tryz.f7.ntmps }
noncomputable def p_ref01_Copy {R : Type} (a0 : List (Int)) (K : (List (Int)) → Option R) : Option R :=
  let v1 := List.replicate 0 (0 : Int)
  cond (decide (List.length v1 + List.length a0 ≤ most))
  (let v2 := v1 ++ a0
  K v2) none
noncomputable def cs_ref01_Copy : CSpec := { ins := [(.val (.sl 5 (.int .u8)) .s)], outs := [((.sl 5 (.int .u8)), (.o .s))], fn := fun (d : (List (Int)) × Unit) K _ => p_ref01_Copy d.1 (fun r0 => K ((r0, ()) : (List (Int)) × Unit) ((()) : Unit)) }
theorem h_ref01_Copy : Holds Tryz.prog 7 cs_ref01_Copy := by
  refine holds_of (env := env_ref01_Copy) (inl := inl0) (fn := Tryz.f7) (code := body Tryz.f7.body) (rs := [(2, none)]) (lp := lp0) mixed ⟨envTyOk.ty, envTyOk.eq⟩ (fun _ _ _ h => by cases h) inl0_ok Tryz.func7 (by kernel_rfl) (by kernel_rfl) (by kernel_rfl) (by kernel_rfl) (by kernel_rfl) (loopsOk_none (by kernel_rfl) (by kernel_rfl)) (by kernel_rfl) ?_
  intro d R K Kp res h
  have : evC env_ref01_Copy lp0 inl0 (body Tryz.f7.body) (St.start cs_ref01_Copy.ins d) (retK env_ref01_Copy cs_ref01_Copy.ins cs_ref01_Copy.outs [(2, none)] cs_ref01_Copy.pan K Kp) = cs_ref01_Copy.fn d K Kp := by kernel_rfl
  rw [this]; exact h
-- f3 trammel/trammellaw11.LoadHead
noncomputable def gam_law11_LoadHead : FuncId → List FuncId → Option CSpec
  | 6, [] => some cs_law11_awake
  | 7, [] => some cs_ref01_Copy
  | 8, [] => some cs_load_Load
  | _, _ => none
noncomputable def fs_law11_LoadHead : Nat → Bool
  | 7 => true
  | 8 => true
  | _ => false
noncomputable def sb_law11_LoadHead : Nat → Bool
  | 18 => true
  | 35 => true
  | _ => false
noncomputable def lv_law11_LoadHead : Nat → Option (List Nat)
  | 0 => some [0, 1, 2]
  | 1 => some [0, 1, 2]
  | 2 => some []
  | 3 => some [0, 1, 2]
  | 4 => some [0, 1, 2]
  | 5 => some []
  | 6 => some [0, 1, 2]
  | 7 => some [0, 1, 2, 9, 10]
  | 8 => some []
  | 9 => some [0, 1, 2]
  | 10 => some [0, 1, 2, 11]
  | 11 => some [0, 2]
  | 12 => some [2, 9, 10]
  | _ => none
noncomputable def env_law11_LoadHead : Env := { ty := envTy, eq := envEq, gam := gam_law11_LoadHead, n := Tryz.f3.ntmps, fs := fs_law11_LoadHead, sb := sb_law11_LoadHead, lv := lv_law11_LoadHead }
theorem gamOk_law11_LoadHead : EnvFn Tryz.prog env_law11_LoadHead := by
  intro f gs c h
  unfold env_law11_LoadHead gam_law11_LoadHead at h
  simp only at h
  split at h <;> first | (cases h; done) | (cases h; exact h_law11_awake) | (cases h; exact h_ref01_Copy) | (cases h; exact h_load_Load)
noncomputable def p_law11_LoadHead {R : Type} (a0 : List (Int)) (a1 : Int) (a2 : Int) (K : Bool → Option R) : Option R :=
  p_law11_awake fun r1 =>
  let v2 := !r1
  cond v2
  (K false)
  (let v3 := ((List.length a0 : Nat) : Int)
  let v4 := minI v3 (4000 : Int)
  cond (inR (0 : Int) v4 (List.length a0))
  (let v5 := rng a0 (0 : Int) v4
  p_ref01_Copy v5 fun r6 =>
  let v7 := decide (a1 < (0 : Int))
  cond v7
  (K true)
  (let v8 := decide (a1 ≥ (8 : Int))
  cond v8
  (K true)
  (let v9 := ((List.length r6 : Nat) : Int)
  let v10 := decide (a1 ≥ v9)
  cond v10
  (K true)
  (cond (inR (0 : Int) a1 (List.length r6))
  (p_load_Load (rng r6 (0 : Int) a1) fun r11 r12 r13 r14 =>
  let v15 := r13 != (1 : Int)
  cond v15
  (K false)
  (let v16 := r14 != (1 : Int)
  cond v16
  (let v17 := r14 != (2 : Int)
  cond v17
  (K false)
  (cond (inB a1 (List.length ([0, 97, 115, 109, 1, 0, 0, 0] : List UInt8)))
  (let v18 := bt ([0, 97, 115, 109, 1, 0, 0, 0] : List UInt8) a1
  let v19 := IntKind.u8.wrap ((BitVec.ofInt IntKind.u8.bits v18 ^^^ BitVec.ofInt IntKind.u8.bits a2).toNat)
  cond (inB a1 (List.length r6))
  (p_load_Load (List.set r6 a1.toNat v19) fun r20 r21 r22 r23 =>
  let v24 := a2 == (0 : Int)
  cond v24
  (K true)
  (let v25 := r22 == (1 : Int)
  cond v25
  (let v26 := r23 == (2 : Int)
  cond v26
  (K true)
  (let v27 := r23 == (1 : Int)
  K v27))
  (K false))) none) none))
  (cond (inB a1 (List.length ([0, 97, 115, 109, 1, 0, 0, 0] : List UInt8)))
  (let v28 := bt ([0, 97, 115, 109, 1, 0, 0, 0] : List UInt8) a1
  let v29 := IntKind.u8.wrap ((BitVec.ofInt IntKind.u8.bits v28 ^^^ BitVec.ofInt IntKind.u8.bits a2).toNat)
  cond (inB a1 (List.length r6))
  (p_load_Load (List.set r6 a1.toNat v29) fun r30 r31 r32 r33 =>
  let v34 := a2 == (0 : Int)
  cond v34
  (K true)
  (let v35 := r32 == (1 : Int)
  cond v35
  (let v36 := r33 == (2 : Int)
  cond v36
  (K true)
  (let v37 := r33 == (1 : Int)
  K v37))
  (K false))) none) none))) none)))) none)
noncomputable def cs_law11_LoadHead : CSpec := { ins := [(.val (.sl 5 (.int .u8)) .s), (.val (.int .i64) .s), (.val (.int .u8) .s)], outs := [(.bool, .s)], fn := fun (d : (List (Int)) × Int × Int × Unit) K _ => p_law11_LoadHead d.1 d.2.1 d.2.2.1 (fun r0 => K ((r0, ()) : Bool × Unit) ((()) : Unit)) }
theorem h_law11_LoadHead : Holds Tryz.prog 3 cs_law11_LoadHead := by
  refine holds_of (env := env_law11_LoadHead) (inl := inl0) (fn := Tryz.f3) (code := body Tryz.f3.body) (rs := [(6, none)]) (lp := lp0) mixed ⟨envTyOk.ty, envTyOk.eq⟩ gamOk_law11_LoadHead inl0_ok Tryz.func3 (by kernel_rfl) (by kernel_rfl) (by kernel_rfl) (by kernel_rfl) (by kernel_rfl) (loopsOk_none (by kernel_rfl) (by kernel_rfl)) (by kernel_rfl) ?_
  intro d R K Kp res h
  have : evC env_law11_LoadHead lp0 inl0 (body Tryz.f3.body) (St.start cs_law11_LoadHead.ins d) (retK env_law11_LoadHead cs_law11_LoadHead.ins cs_law11_LoadHead.outs [(6, none)] cs_law11_LoadHead.pan K Kp) = cs_law11_LoadHead.fn d K Kp := by kernel_rfl
  rw [this]; exact h
end Go.Trm.G1
