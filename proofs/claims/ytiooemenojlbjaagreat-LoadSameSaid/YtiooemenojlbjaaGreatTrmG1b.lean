import Derived.Test.YtiooemenojlbjaaGreatTrmG1a
import Derived.Test.YtiooemenojlbjaaGreatProg
import Derived.KernelRfl
set_option linter.unusedVariables false
set_option linter.unusedSimpArgs false
namespace Go.Trm.G1
open Go.Proofs
set_option maxRecDepth 100000

-- f15 trammel/ctx.Of (in part: skipped f45 | skipped f49)
noncomputable def gam_ctx_Of : FuncId → List FuncId → Option CSpec
  | 46, [] => some cs_ctx_checker_imports
  | 47, [] => some cs_ctx_checker_own
  | 48, [] => some cs_ctx_checker_exportsm1
  | 51, [] => some cs_ctx_checker_segmentsm1
  | 52, [] => some cs_ctx_has
  | 50, [] => some cs_ctx_checker_wantm1
  | _, _ => none
noncomputable def fz_ctx_Of : Nat → Bool
  | 1 => true
  | _ => false
noncomputable def fs_ctx_Of : Nat → Bool
  | 6 => true
  | 9 => true
  | 12 => true
  | _ => false
noncomputable def js_ctx_Of : Nat → Bool
  | 6 => true
  | 24 => true
  | _ => false
noncomputable def lv_ctx_Of : Nat → Option (List Nat)
  | 0 => some [0]
  | 1 => some [1, 2]
  | 2 => some [1, 2, 4]
  | 3 => some [1, 2, 4, 16, 17, 18]
  | 4 => some [1, 2, 4, 16, 17, 18]
  | 5 => some [1, 2, 4, 6, 16, 17, 18]
  | 7 => some [1, 2, 4]
  | 8 => some [1, 2, 4]
  | 9 => some [1, 2, 4]
  | 10 => some [1, 2, 4]
  | 11 => some [1, 2, 4]
  | 12 => some [1, 2, 4, 70, 71, 72]
  | 13 => some [1, 2, 4, 70, 71, 72]
  | 14 => some [1, 2, 4, 8, 70, 71, 72]
  | 18 => some [1, 2, 4]
  | 19 => some [1, 2, 4]
  | 20 => some [2, 4, 103, 104, 105]
  | 21 => some [2, 4, 103, 104, 105]
  | 22 => some [2, 4, 12, 103, 104, 105]
  | 23 => some [2, 4, 12, 103, 104, 105]
  | 24 => some [2, 4, 103, 104, 105]
  | 25 => some [2, 4]
  | 26 => some [2, 4]
  | 27 => some [2, 4]
  | _ => none
noncomputable def om_ctx_Of : TypeId → Md
  | 22 => (.o .s)
  | 25 => (.o (.p (.o .s) (.p (.o .s) .s)))
  | 26 => (.o .s)
  | 27 => (.o (.p .s (.p (.o .s) (.p (.o (.p .s (.p .s (.p .s (.p .s (.p (.o .s) .s)))))) .s))))
  | 28 => (.o .s)
  | 29 => (.o (.p .s (.p .s (.p (.o (.p .s (.p .s (.p .s (.p .s (.p (.o .s) .s)))))) .s))))
  | 30 => (.o .s)
  | 31 => (.o .s)
  | 32 => (.o (.p .s (.p (.o (.p .s (.p .s (.p .s (.p .s (.p (.o .s) .s)))))) (.p (.o .s) .s))))
  | 33 => (.o (.p .s (.p (.o (.p .s (.p .s (.p .s (.p .s (.p (.o .s) .s)))))) (.p (.o .s) .s))))
  | 34 => (.o (.p .s (.p (.o .s) .s)))
  | 35 => (.p (.o (.p (.o .s) (.p (.o .s) .s))) (.p (.o .s) (.p (.o (.p .s (.p (.o .s) (.p (.o (.p .s (.p .s (.p .s (.p .s (.p (.o .s) .s)))))) .s)))) (.p (.o .s) (.p (.o .s) (.p (.o (.p .s (.p .s (.p (.o (.p .s (.p .s (.p .s (.p .s (.p (.o .s) .s)))))) .s)))) (.p (.o .s) (.p (.o .s) (.p (.o (.p .s (.p (.o (.p .s (.p .s (.p .s (.p .s (.p (.o .s) .s)))))) (.p (.o .s) .s)))) (.p (.o .s) (.p (.o (.p .s (.p (.o (.p .s (.p .s (.p .s (.p .s (.p (.o .s) .s)))))) (.p (.o .s) .s)))) (.p (.o (.p .s (.p (.o .s) .s))) .s))))))))))))
  | 36 => (.p (.o (.p (.o .s) (.p (.o .s) .s))) (.p (.o .s) (.p (.o (.p .s (.p (.o .s) (.p (.o (.p .s (.p .s (.p .s (.p .s (.p (.o .s) .s)))))) .s)))) (.p (.o .s) (.p (.o .s) (.p (.o (.p .s (.p .s (.p (.o (.p .s (.p .s (.p .s (.p .s (.p (.o .s) .s)))))) .s)))) (.p (.o .s) (.p (.o .s) (.p (.o (.p .s (.p (.o (.p .s (.p .s (.p .s (.p .s (.p (.o .s) .s)))))) (.p (.o .s) .s)))) (.p (.o .s) (.p (.o (.p .s (.p (.o (.p .s (.p .s (.p .s (.p .s (.p (.o .s) .s)))))) (.p (.o .s) .s)))) (.p (.o (.p .s (.p (.o .s) .s))) .s))))))))))))
  | 37 => (.o .s)
  | 38 => (.p (.o (.p (.o .s) (.p (.o .s) .s))) (.p (.o .s) (.p (.o .s) (.p (.o .s) (.p (.o .s) .s)))))
  | 39 => (.p (.o (.p (.o .s) (.p (.o .s) .s))) (.p (.o .s) (.p (.o .s) (.p (.o .s) (.p (.o .s) .s)))))
  | 54 => (.p (.o .s) (.p (.o .s) .s))
  | 55 => (.p (.o .s) (.p (.o .s) .s))
  | 61 => (.o (.p .s (.p .s (.p .s (.p .s (.p (.o .s) .s))))))
  | 62 => (.p .s (.p (.o .s) (.p (.o (.p .s (.p .s (.p .s (.p .s (.p (.o .s) .s)))))) .s)))
  | 63 => (.p .s (.p (.o .s) (.p (.o (.p .s (.p .s (.p .s (.p .s (.p (.o .s) .s)))))) .s)))
  | 65 => (.p .s (.p .s (.p (.o (.p .s (.p .s (.p .s (.p .s (.p (.o .s) .s)))))) .s)))
  | 66 => (.p .s (.p .s (.p (.o (.p .s (.p .s (.p .s (.p .s (.p (.o .s) .s)))))) .s)))
  | 69 => (.p .s (.p (.o (.p .s (.p .s (.p .s (.p .s (.p (.o .s) .s)))))) (.p (.o .s) .s)))
  | 70 => (.p .s (.p (.o (.p .s (.p .s (.p .s (.p .s (.p (.o .s) .s)))))) (.p (.o .s) .s)))
  | 71 => (.p .s (.p (.o (.p .s (.p .s (.p .s (.p .s (.p (.o .s) .s)))))) (.p (.o .s) .s)))
  | 72 => (.p .s (.p (.o (.p .s (.p .s (.p .s (.p .s (.p (.o .s) .s)))))) (.p (.o .s) .s)))
  | 73 => (.p .s (.p (.o .s) .s))
  | 74 => (.p .s (.p (.o .s) .s))
  | 93 => (.o (.p .s (.p (.o .s) .s)))
  | 96 => (.p .s (.p (.o .s) .s))
  | 97 => (.p .s (.p (.o .s) .s))
  | 101 => (.p (.o .s) .s)
  | 102 => (.p (.o .s) .s)
  | 106 => (.p (.p (.o (.p (.o .s) (.p (.o .s) .s))) (.p (.o .s) (.p (.o .s) (.p (.o .s) (.p (.o .s) .s))))) .s)
  | 107 => (.p (.p (.o (.p (.o .s) (.p (.o .s) .s))) (.p (.o .s) (.p (.o .s) (.p (.o .s) (.p (.o .s) .s))))) .s)
  | 117 => (.p .s (.p .s (.p .s (.p .s (.p (.o .s) .s)))))
  | 118 => (.p .s (.p .s (.p .s (.p .s (.p (.o .s) .s)))))
  | 154 => (.o (.p .s (.p (.o .s) (.p (.o .s) .s))))
  | 155 => (.p (.p (.o (.p (.o .s) (.p (.o .s) .s))) (.p (.o .s) (.p (.o .s) (.p (.o .s) (.p (.o .s) .s))))) (.p (.o .s) (.p (.o .s) (.p (.o (.p .s (.p (.o .s) (.p (.o .s) .s)))) .s))))
  | 156 => (.p (.p (.o (.p (.o .s) (.p (.o .s) .s))) (.p (.o .s) (.p (.o .s) (.p (.o .s) (.p (.o .s) .s))))) (.p (.o .s) (.p (.o .s) (.p (.o (.p .s (.p (.o .s) (.p (.o .s) .s)))) .s))))
  | 177 => (.o .s)
  | 178 => (.p (.o .s) .s)
  | 179 => (.p (.o .s) .s)
  | 183 => (.o (.o .s))
  | 185 => (.p .s (.p (.o .s) (.p (.o .s) .s)))
  | 186 => (.p .s (.p (.o .s) (.p (.o .s) .s)))
  | 212 => (.p (.o .s) .s)
  | 213 => (.p (.o .s) .s)
  | _ => .s
noncomputable def env_ctx_Of : Env := { ty := envTy, eq := envEq, gam := gam_ctx_Of, n := Tryz.f15.ntmps, fz := fz_ctx_Of, fs := fs_ctx_Of, js := js_ctx_Of, lv := lv_ctx_Of, om := om_ctx_Of, al := [49, 50, 51, 52, 53, 54, 55, 56, 57, 112, 113, 114, 120, 121, 122] }
theorem gamOk_ctx_Of : EnvFn Tryz.prog env_ctx_Of := by
  intro f gs c h
  unfold env_ctx_Of gam_ctx_Of at h
  simp only at h
  split at h <;> first | (cases h; done) | (cases h; exact h_ctx_checker_imports) | (cases h; exact h_ctx_checker_own) | (cases h; exact h_ctx_checker_exportsm1) | (cases h; exact h_ctx_checker_segmentsm1) | (cases h; exact h_ctx_has) | (cases h; exact h_ctx_checker_wantm1)
structure Y_ctx_Of_6 where
  f1 : It7
  f2 : (List ((List (Int)) × (List (Int)) × Unit)) × (List (Int)) × It23
  f4 : It24
  f16 : List ((List (Int)) × (List (Int)) × Unit)
  f17 : Int
  f18 : Int

noncomputable def J_ctx_Of_6 {R : Type}  (x : Y_ctx_Of_6) : Option R :=
  cond (inB x.f18 (List.length x.f16))
  (let v1 := List.getD x.f16 x.f18.toNat (([] : List (Int)), (([] : List (Int)), ()))
  none) none
noncomputable def R_ctx_Of_6 {R : Type}  (x : Y_ctx_Of_6) : Option R :=
  cond (inB x.f18 (List.length x.f16))
  (let v1 := List.getD x.f16 x.f18.toNat (([] : List (Int)), (([] : List (Int)), ()))
  both
  (none)
  (none)) none
theorem req_ctx_Of_6 {R : Type}  (x : Y_ctx_Of_6) : R_ctx_Of_6 (R := R)  x = J_ctx_Of_6 (R := R)  x := by
  unfold R_ctx_Of_6 J_ctx_Of_6
  simp only [both_self]
noncomputable def Q_ctx_Of_6 (x : Y_ctx_Of_6) : St := St.ofList [(1, (.v (.ptr 36 Ty21) .s (some x.f1))), (2, (.v (.ptr 39 (.pair Ty8 Ty28)) (.o (.p (.o (.p (.o .s) (.p (.o .s) .s))) (.p (.o .s) (.p (.o .s) (.p (.o .s) (.p (.o .s) .s)))))) (some x.f2))), (4, (.v (.ptr 107 (.pair (.pair Ty8 Ty28) (.pair (.int .i64) .unit))) (.o (.p (.p (.o (.p (.o .s) (.p (.o .s) .s))) (.p (.o .s) (.p (.o .s) (.p (.o .s) (.p (.o .s) .s))))) .s)) (some x.f4))), (16, (.v Ty8 .s x.f16)), (17, (.v (.int .i64) .s x.f17)), (18, (.v (.int .i64) .s x.f18))]
def jut_ctx_Of_6 : Ex → List (Nat × Bool) | _ => []
noncomputable def j_ctx_Of_6 : Code := match joinC 6 (body Tryz.f15.body) with | some c => c | none => .skip
structure X_ctx_Of_3 where
  f1 : It7
  f2 : (List ((List (Int)) × (List (Int)) × Unit)) × (List (Int)) × It23
  f4 : It24
  f16 : List ((List (Int)) × (List (Int)) × Unit)
  f17 : Int
  f18 : Int

noncomputable def B_ctx_Of_3 {R : Type} (k_exit_0 : It7 → ((List ((List (Int)) × (List (Int)) × Unit)) × (List (Int)) × It23) → It24 → Option R) (rec : X_ctx_Of_3 → Option R) (x : X_ctx_Of_3) : Option R :=
  let v1 := decide (x.f18 < x.f17)
  cond v1
  (J_ctx_Of_6 ⟨x.f1, x.f2, x.f4, x.f16, x.f17, x.f18⟩)
  (k_exit_0 x.f1 x.f2 x.f4)
noncomputable def S_ctx_Of_3 (x : X_ctx_Of_3) : St := St.ofList [(1, (.v (.ptr 36 Ty21) .s (some x.f1))), (2, (.v (.ptr 39 (.pair Ty8 Ty28)) (.o (.p (.o (.p (.o .s) (.p (.o .s) .s))) (.p (.o .s) (.p (.o .s) (.p (.o .s) (.p (.o .s) .s)))))) (some x.f2))), (4, (.v (.ptr 107 (.pair (.pair Ty8 Ty28) (.pair (.int .i64) .unit))) (.o (.p (.p (.o (.p (.o .s) (.p (.o .s) .s))) (.p (.o .s) (.p (.o .s) (.p (.o .s) (.p (.o .s) .s))))) .s)) (some x.f4))), (16, (.v Ty8 .s x.f16)), (17, (.v (.int .i64) .s x.f17)), (18, (.v (.int .i64) .s x.f18))]
def out_ctx_Of_3 : Ex → List (Nat × Bool) | .exit 0 => [(1, false), (2, false), (4, false)] | _ => []
noncomputable def fuel_ctx_Of_3 (x : X_ctx_Of_3) : Nat := fuel64
noncomputable def c_ctx_Of_3 : Code := match loopAt 3 (body Tryz.f15.body) with | some c => c | none => .skip
structure X_ctx_Of_12 where
  f1 : It7
  f2 : (List ((List (Int)) × (List (Int)) × Unit)) × (List (Int)) × It23
  f4 : It24
  f70 : List (Int)
  f71 : Int
  f72 : Int

noncomputable def B_ctx_Of_12 {R : Type} (k_exit_2 : It7 → ((List ((List (Int)) × (List (Int)) × Unit)) × (List (Int)) × It23) → It24 → Option R) (rec : X_ctx_Of_12 → Option R) (x : X_ctx_Of_12) : Option R :=
  let v1 := decide (x.f72 < x.f71)
  cond v1
  (cond (inB x.f72 (List.length x.f70))
  (let v2 := List.getD x.f70 x.f72.toNat (0 : Int)
  none) none)
  (k_exit_2 x.f1 x.f2 x.f4)
noncomputable def S_ctx_Of_12 (x : X_ctx_Of_12) : St := St.ofList [(1, (.v (.ptr 36 Ty21) .s (some x.f1))), (2, (.v (.ptr 39 (.pair Ty8 Ty28)) (.o (.p (.o (.p (.o .s) (.p (.o .s) .s))) (.p (.o .s) (.p (.o .s) (.p (.o .s) (.p (.o .s) .s)))))) (some x.f2))), (4, (.v (.ptr 107 (.pair (.pair Ty8 Ty28) (.pair (.int .i64) .unit))) (.o (.p (.p (.o (.p (.o .s) (.p (.o .s) .s))) (.p (.o .s) (.p (.o .s) (.p (.o .s) (.p (.o .s) .s))))) .s)) (some x.f4))), (70, (.v (.sl 3 (.int .i64)) .s x.f70)), (71, (.v (.int .i64) .s x.f71)), (72, (.v (.int .i64) .s x.f72))]
def out_ctx_Of_12 : Ex → List (Nat × Bool) | .exit 2 => [(1, false), (2, false), (4, false)] | _ => []
noncomputable def fuel_ctx_Of_12 (x : X_ctx_Of_12) : Nat := fuel64
noncomputable def c_ctx_Of_12 : Code := match loopAt 12 (body Tryz.f15.body) with | some c => c | none => .skip
structure Y_ctx_Of_24 where
  f2 : (List ((List (Int)) × (List (Int)) × Unit)) × (List (Int)) × It23
  f4 : It24
  f103 : List ((Int) × It1)
  f104 : Int
  f105 : Int

noncomputable def J_ctx_Of_24 {R : Type} (k_normal : ((List ((List (Int)) × (List (Int)) × Unit)) × (List (Int)) × It23) → It24 → (List ((Int) × It1)) → Int → Int → Option R) (x : Y_ctx_Of_24) : Option R :=
  cond (inB x.f105 (List.length x.f103))
  (let v1 := List.getD x.f103 x.f105.toNat ((0 : Int), (([] : List (Int)), (([] : List ((Int) × (Int) × (Int) × (Int) × (List (Int)) × Unit)), ())))
  let v2 := ((List.length x.f4.1.1 : Nat) : Int)
  p_ctx_has v1.1 v2 fun r3 =>
  cond r3
  (let v4 := ((List.length v1.2.1 : Nat) : Int)
  cond (inB v1.1 (List.length x.f4.1.1))
  (let v5 := ((List.length ((List.getD x.f4.1.1 v1.1.toNat (([] : List (Int)), (([] : List (Int)), ()))).1) : Nat) : Int)
  let v6 := IntKind.i64.wrap (v5 + v4)
  let v7 := decide (v6 ≤ (64 : Int))
  p_ctx_checker_wantm1 x.f4 v7 (4 : Int) fun b8 =>
  k_normal x.f2 b8 x.f103 x.f104 x.f105) none)
  (k_normal x.f2 x.f4 x.f103 x.f104 x.f105)) none
noncomputable def Q_ctx_Of_24 (x : Y_ctx_Of_24) : St := St.ofList [(2, (.v (.ptr 39 (.pair Ty8 Ty28)) (.o (.p (.o (.p (.o .s) (.p (.o .s) .s))) (.p (.o .s) (.p (.o .s) (.p (.o .s) (.p (.o .s) .s)))))) (some x.f2))), (4, (.v (.ptr 107 (.pair (.pair Ty8 Ty28) (.pair (.int .i64) .unit))) (.o (.p (.p (.o (.p (.o .s) (.p (.o .s) .s))) (.p (.o .s) (.p (.o .s) (.p (.o .s) (.p (.o .s) .s))))) .s)) (some x.f4))), (103, (.v (.sl 63 (.pair (.int .i64) Ty12)) .s x.f103)), (104, (.v (.int .i64) .s x.f104)), (105, (.v (.int .i64) .s x.f105))]
def jut_ctx_Of_24 : Ex → List (Nat × Bool) | .normal => [(2, false), (4, false), (103, false), (104, false), (105, false)] | _ => []
noncomputable def j_ctx_Of_24 : Code := match joinC 24 (body Tryz.f15.body) with | some c => c | none => .skip
structure X_ctx_Of_20 where
  f2 : (List ((List (Int)) × (List (Int)) × Unit)) × (List (Int)) × It23
  f4 : It24
  f103 : List ((Int) × It1)
  f104 : Int
  f105 : Int

noncomputable def B_ctx_Of_20 {R : Type} (k_exit_4 : ((List ((List (Int)) × (List (Int)) × Unit)) × (List (Int)) × It23) → It24 → Option R) (rec : X_ctx_Of_20 → Option R) (x : X_ctx_Of_20) : Option R :=
  let v1 := decide (x.f105 < x.f104)
  cond v1
  (J_ctx_Of_24 (fun w2 w3 w4 w5 w6 =>
  let v7 := IntKind.i64.wrap (w6 + (1 : Int))
  rec ⟨w2, w3, w4, w5, v7⟩) ⟨x.f2, x.f4, x.f103, x.f104, x.f105⟩)
  (k_exit_4 x.f2 x.f4)
noncomputable def S_ctx_Of_20 (x : X_ctx_Of_20) : St := St.ofList [(2, (.v (.ptr 39 (.pair Ty8 Ty28)) (.o (.p (.o (.p (.o .s) (.p (.o .s) .s))) (.p (.o .s) (.p (.o .s) (.p (.o .s) (.p (.o .s) .s)))))) (some x.f2))), (4, (.v (.ptr 107 (.pair (.pair Ty8 Ty28) (.pair (.int .i64) .unit))) (.o (.p (.p (.o (.p (.o .s) (.p (.o .s) .s))) (.p (.o .s) (.p (.o .s) (.p (.o .s) (.p (.o .s) .s))))) .s)) (some x.f4))), (103, (.v (.sl 63 (.pair (.int .i64) Ty12)) .s x.f103)), (104, (.v (.int .i64) .s x.f104)), (105, (.v (.int .i64) .s x.f105))]
def out_ctx_Of_20 : Ex → List (Nat × Bool) | .exit 4 => [(2, false), (4, false)] | _ => []
noncomputable def fuel_ctx_Of_20 (x : X_ctx_Of_20) : Nat := fuel64
noncomputable def c_ctx_Of_20 : Code := match loopAt 20 (body Tryz.f15.body) with | some c => c | none => .skip
noncomputable def lp_ctx_Of : Loops := fun z i R st K => match z, i with
  | false, 3 => coerce [(1, false), (2, false), (4, false), (16, false), (17, false), (18, false)] st (fun st => mP 36 Ty21 .s (st 1) fun y1 => mP 39 (.pair Ty8 Ty28) (.o (.p (.o (.p (.o .s) (.p (.o .s) .s))) (.p (.o .s) (.p (.o .s) (.p (.o .s) (.p (.o .s) .s)))))) (st 2) fun y2 => mP 107 (.pair (.pair Ty8 Ty28) (.pair (.int .i64) .unit)) (.o (.p (.p (.o (.p (.o .s) (.p (.o .s) .s))) (.p (.o .s) (.p (.o .s) (.p (.o .s) (.p (.o .s) .s))))) .s)) (st 4) fun y4 => mV Ty8 .s (st 16) fun y16 => mV (.int .i64) .s (st 17) fun y17 => mV (.int .i64) .s (st 18) fun y18 => loopN (B_ctx_Of_3 (fun e1 e2 e4 => K (.exit 0) (St.ofList [(1, (.v (.ptr 36 Ty21) .s (some e1))), (2, (.v (.ptr 39 (.pair Ty8 Ty28)) (.o (.p (.o (.p (.o .s) (.p (.o .s) .s))) (.p (.o .s) (.p (.o .s) (.p (.o .s) (.p (.o .s) .s)))))) (some e2))), (4, (.v (.ptr 107 (.pair (.pair Ty8 Ty28) (.pair (.int .i64) .unit))) (.o (.p (.p (.o (.p (.o .s) (.p (.o .s) .s))) (.p (.o .s) (.p (.o .s) (.p (.o .s) (.p (.o .s) .s))))) .s)) (some e4)))]))) (fuel_ctx_Of_3 ⟨y1, y2, y4, y16, y17, y18⟩) ⟨y1, y2, y4, y16, y17, y18⟩)
  | false, 12 => coerce [(1, false), (2, false), (4, false), (70, false), (71, false), (72, false)] st (fun st => mP 36 Ty21 .s (st 1) fun y1 => mP 39 (.pair Ty8 Ty28) (.o (.p (.o (.p (.o .s) (.p (.o .s) .s))) (.p (.o .s) (.p (.o .s) (.p (.o .s) (.p (.o .s) .s)))))) (st 2) fun y2 => mP 107 (.pair (.pair Ty8 Ty28) (.pair (.int .i64) .unit)) (.o (.p (.p (.o (.p (.o .s) (.p (.o .s) .s))) (.p (.o .s) (.p (.o .s) (.p (.o .s) (.p (.o .s) .s))))) .s)) (st 4) fun y4 => mV (.sl 3 (.int .i64)) .s (st 70) fun y70 => mV (.int .i64) .s (st 71) fun y71 => mV (.int .i64) .s (st 72) fun y72 => loopN (B_ctx_Of_12 (fun e1 e2 e4 => K (.exit 2) (St.ofList [(1, (.v (.ptr 36 Ty21) .s (some e1))), (2, (.v (.ptr 39 (.pair Ty8 Ty28)) (.o (.p (.o (.p (.o .s) (.p (.o .s) .s))) (.p (.o .s) (.p (.o .s) (.p (.o .s) (.p (.o .s) .s)))))) (some e2))), (4, (.v (.ptr 107 (.pair (.pair Ty8 Ty28) (.pair (.int .i64) .unit))) (.o (.p (.p (.o (.p (.o .s) (.p (.o .s) .s))) (.p (.o .s) (.p (.o .s) (.p (.o .s) (.p (.o .s) .s))))) .s)) (some e4)))]))) (fuel_ctx_Of_12 ⟨y1, y2, y4, y70, y71, y72⟩) ⟨y1, y2, y4, y70, y71, y72⟩)
  | false, 20 => coerce [(2, false), (4, false), (103, false), (104, false), (105, false)] st (fun st => mP 39 (.pair Ty8 Ty28) (.o (.p (.o (.p (.o .s) (.p (.o .s) .s))) (.p (.o .s) (.p (.o .s) (.p (.o .s) (.p (.o .s) .s)))))) (st 2) fun y2 => mP 107 (.pair (.pair Ty8 Ty28) (.pair (.int .i64) .unit)) (.o (.p (.p (.o (.p (.o .s) (.p (.o .s) .s))) (.p (.o .s) (.p (.o .s) (.p (.o .s) (.p (.o .s) .s))))) .s)) (st 4) fun y4 => mV (.sl 63 (.pair (.int .i64) Ty12)) .s (st 103) fun y103 => mV (.int .i64) .s (st 104) fun y104 => mV (.int .i64) .s (st 105) fun y105 => loopN (B_ctx_Of_20 (fun e2 e4 => K (.exit 4) (St.ofList [(2, (.v (.ptr 39 (.pair Ty8 Ty28)) (.o (.p (.o (.p (.o .s) (.p (.o .s) .s))) (.p (.o .s) (.p (.o .s) (.p (.o .s) (.p (.o .s) .s)))))) (some e2))), (4, (.v (.ptr 107 (.pair (.pair Ty8 Ty28) (.pair (.int .i64) .unit))) (.o (.p (.p (.o (.p (.o .s) (.p (.o .s) .s))) (.p (.o .s) (.p (.o .s) (.p (.o .s) (.p (.o .s) .s))))) .s)) (some e4)))]))) (fuel_ctx_Of_20 ⟨y2, y4, y103, y104, y105⟩) ⟨y2, y4, y103, y104, y105⟩)
  | true, 6 => coerce [(1, false), (2, false), (4, false), (16, false), (17, false), (18, false)] st (fun st => mP 36 Ty21 .s (st 1) fun y1 => mP 39 (.pair Ty8 Ty28) (.o (.p (.o (.p (.o .s) (.p (.o .s) .s))) (.p (.o .s) (.p (.o .s) (.p (.o .s) (.p (.o .s) .s)))))) (st 2) fun y2 => mP 107 (.pair (.pair Ty8 Ty28) (.pair (.int .i64) .unit)) (.o (.p (.p (.o (.p (.o .s) (.p (.o .s) .s))) (.p (.o .s) (.p (.o .s) (.p (.o .s) (.p (.o .s) .s))))) .s)) (st 4) fun y4 => mV Ty8 .s (st 16) fun y16 => mV (.int .i64) .s (st 17) fun y17 => mV (.int .i64) .s (st 18) fun y18 => J_ctx_Of_6  ⟨y1, y2, y4, y16, y17, y18⟩)
  | true, 24 => coerce [(2, false), (4, false), (103, false), (104, false), (105, false)] st (fun st => mP 39 (.pair Ty8 Ty28) (.o (.p (.o (.p (.o .s) (.p (.o .s) .s))) (.p (.o .s) (.p (.o .s) (.p (.o .s) (.p (.o .s) .s)))))) (st 2) fun y2 => mP 107 (.pair (.pair Ty8 Ty28) (.pair (.int .i64) .unit)) (.o (.p (.p (.o (.p (.o .s) (.p (.o .s) .s))) (.p (.o .s) (.p (.o .s) (.p (.o .s) (.p (.o .s) .s))))) .s)) (st 4) fun y4 => mV (.sl 63 (.pair (.int .i64) Ty12)) .s (st 103) fun y103 => mV (.int .i64) .s (st 104) fun y104 => mV (.int .i64) .s (st 105) fun y105 => J_ctx_Of_24 (fun e2 e4 e103 e104 e105 => K .normal (St.ofList [(2, (.v (.ptr 39 (.pair Ty8 Ty28)) (.o (.p (.o (.p (.o .s) (.p (.o .s) .s))) (.p (.o .s) (.p (.o .s) (.p (.o .s) (.p (.o .s) .s)))))) (some e2))), (4, (.v (.ptr 107 (.pair (.pair Ty8 Ty28) (.pair (.int .i64) .unit))) (.o (.p (.p (.o (.p (.o .s) (.p (.o .s) .s))) (.p (.o .s) (.p (.o .s) (.p (.o .s) (.p (.o .s) .s))))) .s)) (some e4))), (103, (.v (.sl 63 (.pair (.int .i64) Ty12)) .s e103)), (104, (.v (.int .i64) .s e104)), (105, (.v (.int .i64) .s e105))])) ⟨y2, y4, y103, y104, y105⟩)
  | _, _ => none
theorem jstep_ctx_Of_6 (R : Type) (K : Ex → St → Option R) (x : Y_ctx_Of_6) : evC env_ctx_Of lp_ctx_Of inl0 j_ctx_Of_6 (Q_ctx_Of_6 x) (fun e st => coerce (jut_ctx_Of_6 e) st (K e)) = J_ctx_Of_6  x := by
  have h : evC env_ctx_Of lp_ctx_Of inl0 j_ctx_Of_6 (Q_ctx_Of_6 x) (fun e st => coerce (jut_ctx_Of_6 e) st (K e)) = R_ctx_Of_6  x := by kernel_rfl
  rw [h, req_ctx_Of_6]
theorem jok_ctx_Of_6 : JoinOk env_ctx_Of lp_ctx_Of inl0 j_ctx_Of_6 6 := by
  refine joinOk_of (hd := [(1, false), (2, false), (4, false), (16, false), (17, false), (18, false)]) (out := jut_ctx_Of_6) (S := Q_ctx_Of_6) (fun _ K => J_ctx_Of_6 ) 6 jstep_ctx_Of_6 (fun R K => fun st => mP 36 Ty21 .s (st 1) fun y1 => mP 39 (.pair Ty8 Ty28) (.o (.p (.o (.p (.o .s) (.p (.o .s) .s))) (.p (.o .s) (.p (.o .s) (.p (.o .s) (.p (.o .s) .s)))))) (st 2) fun y2 => mP 107 (.pair (.pair Ty8 Ty28) (.pair (.int .i64) .unit)) (.o (.p (.p (.o (.p (.o .s) (.p (.o .s) .s))) (.p (.o .s) (.p (.o .s) (.p (.o .s) (.p (.o .s) .s))))) .s)) (st 4) fun y4 => mV Ty8 .s (st 16) fun y16 => mV (.int .i64) .s (st 17) fun y17 => mV (.int .i64) .s (st 18) fun y18 => J_ctx_Of_6  ⟨y1, y2, y4, y16, y17, y18⟩) (fun R st K => by kernel_rfl) ?_
  intro R K st r h
  obtain ⟨y1, hy1, h⟩ := mP_inv h
  obtain ⟨y2, hy2, h⟩ := mP_inv h
  obtain ⟨y4, hy4, h⟩ := mP_inv h
  obtain ⟨y16, hy16, h⟩ := mV_inv h
  obtain ⟨y17, hy17, h⟩ := mV_inv h
  obtain ⟨y18, hy18, h⟩ := mV_inv h
  exact ⟨⟨y1, y2, y4, y16, y17, y18⟩, only_of_list (ofList_cons hy1 (ofList_cons hy2 (ofList_cons hy4 (ofList_cons hy16 (ofList_cons hy17 (ofList_cons hy18 rfl)))))), h⟩
theorem step_ctx_Of_3 (R : Type) (K : Ex → St → Option R) (rec : St → Option R) (x : X_ctx_Of_3) : evC env_ctx_Of lp_ctx_Of inl0 c_ctx_Of_3 (S_ctx_Of_3 x) (fun e st => match e with | .normal => coerce [(1, false), (2, false), (4, false), (16, false), (17, false), (18, false)] st rec | e => coerce (out_ctx_Of_3 e) st (K e)) = B_ctx_Of_3 (fun e1 e2 e4 => K (.exit 0) (St.ofList [(1, (.v (.ptr 36 Ty21) .s (some e1))), (2, (.v (.ptr 39 (.pair Ty8 Ty28)) (.o (.p (.o (.p (.o .s) (.p (.o .s) .s))) (.p (.o .s) (.p (.o .s) (.p (.o .s) (.p (.o .s) .s)))))) (some e2))), (4, (.v (.ptr 107 (.pair (.pair Ty8 Ty28) (.pair (.int .i64) .unit))) (.o (.p (.p (.o (.p (.o .s) (.p (.o .s) .s))) (.p (.o .s) (.p (.o .s) (.p (.o .s) (.p (.o .s) .s))))) .s)) (some e4)))])) (fun x => rec (S_ctx_Of_3 x)) x := by kernel_rfl
theorem ok_ctx_Of_3 : LoopOk env_ctx_Of lp_ctx_Of inl0 c_ctx_Of_3 := by
  refine loopOk_of (hd := [(1, false), (2, false), (4, false), (16, false), (17, false), (18, false)]) (out := out_ctx_Of_3) (S := S_ctx_Of_3) (fun _ K => B_ctx_Of_3 (fun e1 e2 e4 => K (.exit 0) (St.ofList [(1, (.v (.ptr 36 Ty21) .s (some e1))), (2, (.v (.ptr 39 (.pair Ty8 Ty28)) (.o (.p (.o (.p (.o .s) (.p (.o .s) .s))) (.p (.o .s) (.p (.o .s) (.p (.o .s) (.p (.o .s) .s)))))) (some e2))), (4, (.v (.ptr 107 (.pair (.pair Ty8 Ty28) (.pair (.int .i64) .unit))) (.o (.p (.p (.o (.p (.o .s) (.p (.o .s) .s))) (.p (.o .s) (.p (.o .s) (.p (.o .s) (.p (.o .s) .s))))) .s)) (some e4)))]))) fuel_ctx_Of_3 3 step_ctx_Of_3 (by kernel_rfl) (fun R K => fun st => mP 36 Ty21 .s (st 1) fun y1 => mP 39 (.pair Ty8 Ty28) (.o (.p (.o (.p (.o .s) (.p (.o .s) .s))) (.p (.o .s) (.p (.o .s) (.p (.o .s) (.p (.o .s) .s)))))) (st 2) fun y2 => mP 107 (.pair (.pair Ty8 Ty28) (.pair (.int .i64) .unit)) (.o (.p (.p (.o (.p (.o .s) (.p (.o .s) .s))) (.p (.o .s) (.p (.o .s) (.p (.o .s) (.p (.o .s) .s))))) .s)) (st 4) fun y4 => mV Ty8 .s (st 16) fun y16 => mV (.int .i64) .s (st 17) fun y17 => mV (.int .i64) .s (st 18) fun y18 => loopN (B_ctx_Of_3 (fun e1 e2 e4 => K (.exit 0) (St.ofList [(1, (.v (.ptr 36 Ty21) .s (some e1))), (2, (.v (.ptr 39 (.pair Ty8 Ty28)) (.o (.p (.o (.p (.o .s) (.p (.o .s) .s))) (.p (.o .s) (.p (.o .s) (.p (.o .s) (.p (.o .s) .s)))))) (some e2))), (4, (.v (.ptr 107 (.pair (.pair Ty8 Ty28) (.pair (.int .i64) .unit))) (.o (.p (.p (.o (.p (.o .s) (.p (.o .s) .s))) (.p (.o .s) (.p (.o .s) (.p (.o .s) (.p (.o .s) .s))))) .s)) (some e4)))]))) (fuel_ctx_Of_3 ⟨y1, y2, y4, y16, y17, y18⟩) ⟨y1, y2, y4, y16, y17, y18⟩) (fun R st K => by kernel_rfl) ?_
  intro R K st r h
  obtain ⟨y1, hy1, h⟩ := mP_inv h
  obtain ⟨y2, hy2, h⟩ := mP_inv h
  obtain ⟨y4, hy4, h⟩ := mP_inv h
  obtain ⟨y16, hy16, h⟩ := mV_inv h
  obtain ⟨y17, hy17, h⟩ := mV_inv h
  obtain ⟨y18, hy18, h⟩ := mV_inv h
  exact ⟨⟨y1, y2, y4, y16, y17, y18⟩, only_of_list (ofList_cons hy1 (ofList_cons hy2 (ofList_cons hy4 (ofList_cons hy16 (ofList_cons hy17 (ofList_cons hy18 rfl)))))), h⟩
theorem step_ctx_Of_12 (R : Type) (K : Ex → St → Option R) (rec : St → Option R) (x : X_ctx_Of_12) : evC env_ctx_Of lp_ctx_Of inl0 c_ctx_Of_12 (S_ctx_Of_12 x) (fun e st => match e with | .normal => coerce [(1, false), (2, false), (4, false), (70, false), (71, false), (72, false)] st rec | e => coerce (out_ctx_Of_12 e) st (K e)) = B_ctx_Of_12 (fun e1 e2 e4 => K (.exit 2) (St.ofList [(1, (.v (.ptr 36 Ty21) .s (some e1))), (2, (.v (.ptr 39 (.pair Ty8 Ty28)) (.o (.p (.o (.p (.o .s) (.p (.o .s) .s))) (.p (.o .s) (.p (.o .s) (.p (.o .s) (.p (.o .s) .s)))))) (some e2))), (4, (.v (.ptr 107 (.pair (.pair Ty8 Ty28) (.pair (.int .i64) .unit))) (.o (.p (.p (.o (.p (.o .s) (.p (.o .s) .s))) (.p (.o .s) (.p (.o .s) (.p (.o .s) (.p (.o .s) .s))))) .s)) (some e4)))])) (fun x => rec (S_ctx_Of_12 x)) x := by kernel_rfl
theorem ok_ctx_Of_12 : LoopOk env_ctx_Of lp_ctx_Of inl0 c_ctx_Of_12 := by
  refine loopOk_of (hd := [(1, false), (2, false), (4, false), (70, false), (71, false), (72, false)]) (out := out_ctx_Of_12) (S := S_ctx_Of_12) (fun _ K => B_ctx_Of_12 (fun e1 e2 e4 => K (.exit 2) (St.ofList [(1, (.v (.ptr 36 Ty21) .s (some e1))), (2, (.v (.ptr 39 (.pair Ty8 Ty28)) (.o (.p (.o (.p (.o .s) (.p (.o .s) .s))) (.p (.o .s) (.p (.o .s) (.p (.o .s) (.p (.o .s) .s)))))) (some e2))), (4, (.v (.ptr 107 (.pair (.pair Ty8 Ty28) (.pair (.int .i64) .unit))) (.o (.p (.p (.o (.p (.o .s) (.p (.o .s) .s))) (.p (.o .s) (.p (.o .s) (.p (.o .s) (.p (.o .s) .s))))) .s)) (some e4)))]))) fuel_ctx_Of_12 12 step_ctx_Of_12 (by kernel_rfl) (fun R K => fun st => mP 36 Ty21 .s (st 1) fun y1 => mP 39 (.pair Ty8 Ty28) (.o (.p (.o (.p (.o .s) (.p (.o .s) .s))) (.p (.o .s) (.p (.o .s) (.p (.o .s) (.p (.o .s) .s)))))) (st 2) fun y2 => mP 107 (.pair (.pair Ty8 Ty28) (.pair (.int .i64) .unit)) (.o (.p (.p (.o (.p (.o .s) (.p (.o .s) .s))) (.p (.o .s) (.p (.o .s) (.p (.o .s) (.p (.o .s) .s))))) .s)) (st 4) fun y4 => mV (.sl 3 (.int .i64)) .s (st 70) fun y70 => mV (.int .i64) .s (st 71) fun y71 => mV (.int .i64) .s (st 72) fun y72 => loopN (B_ctx_Of_12 (fun e1 e2 e4 => K (.exit 2) (St.ofList [(1, (.v (.ptr 36 Ty21) .s (some e1))), (2, (.v (.ptr 39 (.pair Ty8 Ty28)) (.o (.p (.o (.p (.o .s) (.p (.o .s) .s))) (.p (.o .s) (.p (.o .s) (.p (.o .s) (.p (.o .s) .s)))))) (some e2))), (4, (.v (.ptr 107 (.pair (.pair Ty8 Ty28) (.pair (.int .i64) .unit))) (.o (.p (.p (.o (.p (.o .s) (.p (.o .s) .s))) (.p (.o .s) (.p (.o .s) (.p (.o .s) (.p (.o .s) .s))))) .s)) (some e4)))]))) (fuel_ctx_Of_12 ⟨y1, y2, y4, y70, y71, y72⟩) ⟨y1, y2, y4, y70, y71, y72⟩) (fun R st K => by kernel_rfl) ?_
  intro R K st r h
  obtain ⟨y1, hy1, h⟩ := mP_inv h
  obtain ⟨y2, hy2, h⟩ := mP_inv h
  obtain ⟨y4, hy4, h⟩ := mP_inv h
  obtain ⟨y70, hy70, h⟩ := mV_inv h
  obtain ⟨y71, hy71, h⟩ := mV_inv h
  obtain ⟨y72, hy72, h⟩ := mV_inv h
  exact ⟨⟨y1, y2, y4, y70, y71, y72⟩, only_of_list (ofList_cons hy1 (ofList_cons hy2 (ofList_cons hy4 (ofList_cons hy70 (ofList_cons hy71 (ofList_cons hy72 rfl)))))), h⟩
theorem jstep_ctx_Of_24 (R : Type) (K : Ex → St → Option R) (x : Y_ctx_Of_24) : evC env_ctx_Of lp_ctx_Of inl0 j_ctx_Of_24 (Q_ctx_Of_24 x) (fun e st => coerce (jut_ctx_Of_24 e) st (K e)) = J_ctx_Of_24 (fun e2 e4 e103 e104 e105 => K .normal (St.ofList [(2, (.v (.ptr 39 (.pair Ty8 Ty28)) (.o (.p (.o (.p (.o .s) (.p (.o .s) .s))) (.p (.o .s) (.p (.o .s) (.p (.o .s) (.p (.o .s) .s)))))) (some e2))), (4, (.v (.ptr 107 (.pair (.pair Ty8 Ty28) (.pair (.int .i64) .unit))) (.o (.p (.p (.o (.p (.o .s) (.p (.o .s) .s))) (.p (.o .s) (.p (.o .s) (.p (.o .s) (.p (.o .s) .s))))) .s)) (some e4))), (103, (.v (.sl 63 (.pair (.int .i64) Ty12)) .s e103)), (104, (.v (.int .i64) .s e104)), (105, (.v (.int .i64) .s e105))])) x := by kernel_rfl
theorem jok_ctx_Of_24 : JoinOk env_ctx_Of lp_ctx_Of inl0 j_ctx_Of_24 24 := by
  refine joinOk_of (hd := [(2, false), (4, false), (103, false), (104, false), (105, false)]) (out := jut_ctx_Of_24) (S := Q_ctx_Of_24) (fun _ K => J_ctx_Of_24 (fun e2 e4 e103 e104 e105 => K .normal (St.ofList [(2, (.v (.ptr 39 (.pair Ty8 Ty28)) (.o (.p (.o (.p (.o .s) (.p (.o .s) .s))) (.p (.o .s) (.p (.o .s) (.p (.o .s) (.p (.o .s) .s)))))) (some e2))), (4, (.v (.ptr 107 (.pair (.pair Ty8 Ty28) (.pair (.int .i64) .unit))) (.o (.p (.p (.o (.p (.o .s) (.p (.o .s) .s))) (.p (.o .s) (.p (.o .s) (.p (.o .s) (.p (.o .s) .s))))) .s)) (some e4))), (103, (.v (.sl 63 (.pair (.int .i64) Ty12)) .s e103)), (104, (.v (.int .i64) .s e104)), (105, (.v (.int .i64) .s e105))]))) 24 jstep_ctx_Of_24 (fun R K => fun st => mP 39 (.pair Ty8 Ty28) (.o (.p (.o (.p (.o .s) (.p (.o .s) .s))) (.p (.o .s) (.p (.o .s) (.p (.o .s) (.p (.o .s) .s)))))) (st 2) fun y2 => mP 107 (.pair (.pair Ty8 Ty28) (.pair (.int .i64) .unit)) (.o (.p (.p (.o (.p (.o .s) (.p (.o .s) .s))) (.p (.o .s) (.p (.o .s) (.p (.o .s) (.p (.o .s) .s))))) .s)) (st 4) fun y4 => mV (.sl 63 (.pair (.int .i64) Ty12)) .s (st 103) fun y103 => mV (.int .i64) .s (st 104) fun y104 => mV (.int .i64) .s (st 105) fun y105 => J_ctx_Of_24 (fun e2 e4 e103 e104 e105 => K .normal (St.ofList [(2, (.v (.ptr 39 (.pair Ty8 Ty28)) (.o (.p (.o (.p (.o .s) (.p (.o .s) .s))) (.p (.o .s) (.p (.o .s) (.p (.o .s) (.p (.o .s) .s)))))) (some e2))), (4, (.v (.ptr 107 (.pair (.pair Ty8 Ty28) (.pair (.int .i64) .unit))) (.o (.p (.p (.o (.p (.o .s) (.p (.o .s) .s))) (.p (.o .s) (.p (.o .s) (.p (.o .s) (.p (.o .s) .s))))) .s)) (some e4))), (103, (.v (.sl 63 (.pair (.int .i64) Ty12)) .s e103)), (104, (.v (.int .i64) .s e104)), (105, (.v (.int .i64) .s e105))])) ⟨y2, y4, y103, y104, y105⟩) (fun R st K => by kernel_rfl) ?_
  intro R K st r h
  obtain ⟨y2, hy2, h⟩ := mP_inv h
  obtain ⟨y4, hy4, h⟩ := mP_inv h
  obtain ⟨y103, hy103, h⟩ := mV_inv h
  obtain ⟨y104, hy104, h⟩ := mV_inv h
  obtain ⟨y105, hy105, h⟩ := mV_inv h
  exact ⟨⟨y2, y4, y103, y104, y105⟩, only_of_list (ofList_cons hy2 (ofList_cons hy4 (ofList_cons hy103 (ofList_cons hy104 (ofList_cons hy105 rfl))))), h⟩
theorem step_ctx_Of_20 (R : Type) (K : Ex → St → Option R) (rec : St → Option R) (x : X_ctx_Of_20) : evC env_ctx_Of lp_ctx_Of inl0 c_ctx_Of_20 (S_ctx_Of_20 x) (fun e st => match e with | .normal => coerce [(2, false), (4, false), (103, false), (104, false), (105, false)] st rec | e => coerce (out_ctx_Of_20 e) st (K e)) = B_ctx_Of_20 (fun e2 e4 => K (.exit 4) (St.ofList [(2, (.v (.ptr 39 (.pair Ty8 Ty28)) (.o (.p (.o (.p (.o .s) (.p (.o .s) .s))) (.p (.o .s) (.p (.o .s) (.p (.o .s) (.p (.o .s) .s)))))) (some e2))), (4, (.v (.ptr 107 (.pair (.pair Ty8 Ty28) (.pair (.int .i64) .unit))) (.o (.p (.p (.o (.p (.o .s) (.p (.o .s) .s))) (.p (.o .s) (.p (.o .s) (.p (.o .s) (.p (.o .s) .s))))) .s)) (some e4)))])) (fun x => rec (S_ctx_Of_20 x)) x := by kernel_rfl
theorem ok_ctx_Of_20 : LoopOk env_ctx_Of lp_ctx_Of inl0 c_ctx_Of_20 := by
  refine loopOk_of (hd := [(2, false), (4, false), (103, false), (104, false), (105, false)]) (out := out_ctx_Of_20) (S := S_ctx_Of_20) (fun _ K => B_ctx_Of_20 (fun e2 e4 => K (.exit 4) (St.ofList [(2, (.v (.ptr 39 (.pair Ty8 Ty28)) (.o (.p (.o (.p (.o .s) (.p (.o .s) .s))) (.p (.o .s) (.p (.o .s) (.p (.o .s) (.p (.o .s) .s)))))) (some e2))), (4, (.v (.ptr 107 (.pair (.pair Ty8 Ty28) (.pair (.int .i64) .unit))) (.o (.p (.p (.o (.p (.o .s) (.p (.o .s) .s))) (.p (.o .s) (.p (.o .s) (.p (.o .s) (.p (.o .s) .s))))) .s)) (some e4)))]))) fuel_ctx_Of_20 20 step_ctx_Of_20 (by kernel_rfl) (fun R K => fun st => mP 39 (.pair Ty8 Ty28) (.o (.p (.o (.p (.o .s) (.p (.o .s) .s))) (.p (.o .s) (.p (.o .s) (.p (.o .s) (.p (.o .s) .s)))))) (st 2) fun y2 => mP 107 (.pair (.pair Ty8 Ty28) (.pair (.int .i64) .unit)) (.o (.p (.p (.o (.p (.o .s) (.p (.o .s) .s))) (.p (.o .s) (.p (.o .s) (.p (.o .s) (.p (.o .s) .s))))) .s)) (st 4) fun y4 => mV (.sl 63 (.pair (.int .i64) Ty12)) .s (st 103) fun y103 => mV (.int .i64) .s (st 104) fun y104 => mV (.int .i64) .s (st 105) fun y105 => loopN (B_ctx_Of_20 (fun e2 e4 => K (.exit 4) (St.ofList [(2, (.v (.ptr 39 (.pair Ty8 Ty28)) (.o (.p (.o (.p (.o .s) (.p (.o .s) .s))) (.p (.o .s) (.p (.o .s) (.p (.o .s) (.p (.o .s) .s)))))) (some e2))), (4, (.v (.ptr 107 (.pair (.pair Ty8 Ty28) (.pair (.int .i64) .unit))) (.o (.p (.p (.o (.p (.o .s) (.p (.o .s) .s))) (.p (.o .s) (.p (.o .s) (.p (.o .s) (.p (.o .s) .s))))) .s)) (some e4)))]))) (fuel_ctx_Of_20 ⟨y2, y4, y103, y104, y105⟩) ⟨y2, y4, y103, y104, y105⟩) (fun R st K => by kernel_rfl) ?_
  intro R K st r h
  obtain ⟨y2, hy2, h⟩ := mP_inv h
  obtain ⟨y4, hy4, h⟩ := mP_inv h
  obtain ⟨y103, hy103, h⟩ := mV_inv h
  obtain ⟨y104, hy104, h⟩ := mV_inv h
  obtain ⟨y105, hy105, h⟩ := mV_inv h
  exact ⟨⟨y2, y4, y103, y104, y105⟩, only_of_list (ofList_cons hy2 (ofList_cons hy4 (ofList_cons hy103 (ofList_cons hy104 (ofList_cons hy105 rfl))))), h⟩
theorem loops_ctx_Of : LoopsOk env_ctx_Of lp_ctx_Of inl0 (body Tryz.f15.body) := by
  refine loopsOk_of (fun c hc => ?_) (fun c hc => ?_)
  · rw [show loopsL (body Tryz.f15.body) = [c_ctx_Of_3, c_ctx_Of_12, c_ctx_Of_20] by kernel_rfl] at hc
    simp only [List.mem_cons, List.not_mem_nil, or_false] at hc
    rcases hc with rfl | rfl | rfl
    · exact ok_ctx_Of_3
    · exact ok_ctx_Of_12
    · exact ok_ctx_Of_20
  · rw [show joinsL env_ctx_Of (body Tryz.f15.body) = [(j_ctx_Of_6, 6), (j_ctx_Of_24, 24)] by kernel_rfl] at hc
    simp only [List.mem_cons, List.not_mem_nil, or_false] at hc
    rcases hc with rfl | rfl
    · exact jok_ctx_Of_6
    · exact jok_ctx_Of_24
noncomputable def p_ctx_Of {R : Type} (a0 : It7) (K : ((List ((List (Int)) × (List (Int)) × Unit)) × (List (Int)) × It23) → Int → Option R) : Option R :=
  let v1 := ((List.length a0.1 : Nat) : Int)
  loopN (B_ctx_Of_3 (fun w2 w3 w4 =>
  let v5 := ((List.length w2.2.2.2.2.2.2.2.2.1 : Nat) : Int)
  let v6 := ((List.length w2.2.2.2.2.2.2.2.2.2.2.1 : Nat) : Int)
  let v7 := ((List.length w2.2.2.2.2.2.2.2.2.2.1 : Nat) : Int)
  let v8 := decide (v7 > (0 : Int))
  p_ctx_checker_imports ((w4.1.1, (w4.1.2.1, (w4.1.2.2.1, (w4.1.2.2.2.1, (w4.1.2.2.2.2.1, (w4.1.2.2.2.2.2.1, (w4.1.2.2.2.2.2.2.1, (v5, (v6, (v8, w4.1.2.2.2.2.2.2.2.2.2.2)))))))))), w4.2) w2.2.1 fun b9 =>
  p_ctx_checker_own b9 w2 fun b10 =>
  p_ctx_checker_exportsm1 b10 w2.2.2.2.2.2.2.1 fun b11 =>
  let v12 := ((List.length w2.2.2.2.2.2.2.2.1 : Nat) : Int)
  loopN (B_ctx_Of_12 (fun w13 w14 w15 =>
  p_ctx_checker_segmentsm1 w15 w13 fun b16 =>
  let v17 := ((List.length w13.2.2.1 : Nat) : Int)
  loopN (B_ctx_Of_20 (fun w18 w19 =>
  let v20 := w19.2.1 != (0 : Int)
  cond v20
  (both
  (K (([] : List ((List (Int)) × (List (Int)) × Unit)), (([] : List (Int)), (([] : List ((Int) × (Bool) × Unit)), (([] : List ((Int) × (Bool) × (Int) × Unit)), (([] : List ((Int) × (Bool) × (Int) × Unit)), ((0 : Int), ((0 : Int), ((0 : Int), ((0 : Int), (false, ())))))))))) w19.2.1)
  (K (([] : List ((List (Int)) × (List (Int)) × Unit)), (([] : List (Int)), (([] : List ((Int) × (Bool) × Unit)), (([] : List ((Int) × (Bool) × (Int) × Unit)), (([] : List ((Int) × (Bool) × (Int) × Unit)), ((0 : Int), ((0 : Int), ((0 : Int), ((0 : Int), (false, ())))))))))) w19.2.1))
  (K w19.1 (0 : Int)))) (fuel_ctx_Of_20 ⟨w14, b16, w13.2.2.1, v17, (0 : Int)⟩) ⟨w14, b16, w13.2.2.1, v17, (0 : Int)⟩)) (fuel_ctx_Of_12 ⟨w2, w3, b11, w2.2.2.2.2.2.2.2.1, v12, (0 : Int)⟩) ⟨w2, w3, b11, w2.2.2.2.2.2.2.2.1, v12, (0 : Int)⟩)) (fuel_ctx_Of_3 ⟨a0, (([] : List ((List (Int)) × (List (Int)) × Unit)), (([] : List (Int)), (([] : List ((Int) × (Bool) × Unit)), (([] : List ((Int) × (Bool) × (Int) × Unit)), (([] : List ((Int) × (Bool) × (Int) × Unit)), ((0 : Int), ((0 : Int), ((0 : Int), ((0 : Int), (false, ())))))))))), ((([] : List ((List (Int)) × (List (Int)) × Unit)), (([] : List (Int)), (([] : List ((Int) × (Bool) × Unit)), (([] : List ((Int) × (Bool) × (Int) × Unit)), (([] : List ((Int) × (Bool) × (Int) × Unit)), ((0 : Int), ((0 : Int), ((0 : Int), ((0 : Int), (false, ())))))))))), ((0 : Int), ())), a0.1, v1, (0 : Int)⟩) ⟨a0, (([] : List ((List (Int)) × (List (Int)) × Unit)), (([] : List (Int)), (([] : List ((Int) × (Bool) × Unit)), (([] : List ((Int) × (Bool) × (Int) × Unit)), (([] : List ((Int) × (Bool) × (Int) × Unit)), ((0 : Int), ((0 : Int), ((0 : Int), ((0 : Int), (false, ())))))))))), ((([] : List ((List (Int)) × (List (Int)) × Unit)), (([] : List (Int)), (([] : List ((Int) × (Bool) × Unit)), (([] : List ((Int) × (Bool) × (Int) × Unit)), (([] : List ((Int) × (Bool) × (Int) × Unit)), ((0 : Int), ((0 : Int), ((0 : Int), ((0 : Int), (false, ())))))))))), ((0 : Int), ())), a0.1, v1, (0 : Int)⟩
noncomputable def cs_ctx_Of : CSpec := { ins := [(.val Ty21 .s)], outs := [((.pair Ty8 Ty28), (.p (.o (.p (.o .s) (.p (.o .s) .s))) (.p (.o .s) (.p (.o .s) (.p (.o .s) (.p (.o .s) .s)))))), ((.int .i64), .s)], fn := fun (d : It7 × Unit) K _ => p_ctx_Of d.1 (fun r0 r1 => K ((r0, r1, ()) : ((List ((List (Int)) × (List (Int)) × Unit)) × (List (Int)) × It23) × Int × Unit) ((()) : Unit)) }
theorem h_ctx_Of : Holds Tryz.prog 15 cs_ctx_Of := by
  refine holds_of (env := env_ctx_Of) (inl := inl0) (fn := Tryz.f15) (code := body Tryz.f15.body) (rs := [(2, some 39), (3, none)]) (lp := lp_ctx_Of) mixed ⟨envTyOk.ty, envTyOk.eq⟩ gamOk_ctx_Of inl0_ok Tryz.func15 (by kernel_rfl) (by kernel_rfl) (by kernel_rfl) (by kernel_rfl) (by kernel_rfl) loops_ctx_Of (by kernel_rfl) ?_
  intro d R K Kp res h
  have : evC env_ctx_Of lp_ctx_Of inl0 (body Tryz.f15.body) (St.start cs_ctx_Of.ins d) (retK env_ctx_Of cs_ctx_Of.ins cs_ctx_Of.outs [(2, some 39), (3, none)] cs_ctx_Of.pan K Kp) = cs_ctx_Of.fn d K Kp := by kernel_rfl
  rw [this]; exact h
-- f16 trammel/valid.All (in part: skipped f53)
noncomputable def fz_valid_All : Nat → Bool
  | 2 => true
  | 3 => true
  | _ => false
noncomputable def fs_valid_All : Nat → Bool
  | 6 => true
  | _ => false
noncomputable def env_valid_All : Env := { ty := envTy, eq := envEq, gam := noG, n := Tryz.f16.ntmps, fz := fz_valid_All, fs := fs_valid_All }
structure X_valid_All_2 where
  f2 : (List ((List (Int)) × (List (Int)) × Unit)) × (List (Int)) × It23
  f9 : List ((Int) × It1)
  f10 : Int
  f11 : Int

noncomputable def B_valid_All_2 {R : Type} (k_exit_0 : Option R) (rec : X_valid_All_2 → Option R) (x : X_valid_All_2) : Option R :=
  let v1 := decide (x.f11 < x.f10)
  cond v1
  (cond (inB x.f11 (List.length x.f9))
  (let v2 := List.getD x.f9 x.f11.toNat ((0 : Int), (([] : List (Int)), (([] : List ((Int) × (Int) × (Int) × (Int) × (List (Int)) × Unit)), ())))
  none) none)
  (k_exit_0)
noncomputable def S_valid_All_2 (x : X_valid_All_2) : St := St.ofList [(2, (.v (.ptr 39 (.pair Ty8 Ty28)) .s (some x.f2))), (9, (.v (.sl 63 (.pair (.int .i64) Ty12)) .s x.f9)), (10, (.v (.int .i64) .s x.f10)), (11, (.v (.int .i64) .s x.f11))]
def out_valid_All_2 : Ex → List (Nat × Bool) | .exit 0 => [] | _ => []
noncomputable def fuel_valid_All_2 (x : X_valid_All_2) : Nat := fuel64
noncomputable def c_valid_All_2 : Code := match loopAt 2 (body Tryz.f16.body) with | some c => c | none => .skip
noncomputable def lp_valid_All : Loops := fun z i R st K => match z, i with
  | false, 2 => coerce [(2, false), (9, false), (10, false), (11, false)] st (fun st => mP 39 (.pair Ty8 Ty28) .s (st 2) fun y2 => mV (.sl 63 (.pair (.int .i64) Ty12)) .s (st 9) fun y9 => mV (.int .i64) .s (st 10) fun y10 => mV (.int .i64) .s (st 11) fun y11 => loopN (B_valid_All_2 (K (.exit 0) (St.ofList []))) (fuel_valid_All_2 ⟨y2, y9, y10, y11⟩) ⟨y2, y9, y10, y11⟩)
  | _, _ => none
theorem step_valid_All_2 (R : Type) (K : Ex → St → Option R) (rec : St → Option R) (x : X_valid_All_2) : evC env_valid_All lp_valid_All inl0 c_valid_All_2 (S_valid_All_2 x) (fun e st => match e with | .normal => coerce [(2, false), (9, false), (10, false), (11, false)] st rec | e => coerce (out_valid_All_2 e) st (K e)) = B_valid_All_2 (K (.exit 0) (St.ofList [])) (fun x => rec (S_valid_All_2 x)) x := by kernel_rfl
theorem ok_valid_All_2 : LoopOk env_valid_All lp_valid_All inl0 c_valid_All_2 := by
  refine loopOk_of (hd := [(2, false), (9, false), (10, false), (11, false)]) (out := out_valid_All_2) (S := S_valid_All_2) (fun _ K => B_valid_All_2 (K (.exit 0) (St.ofList []))) fuel_valid_All_2 2 step_valid_All_2 (by kernel_rfl) (fun R K => fun st => mP 39 (.pair Ty8 Ty28) .s (st 2) fun y2 => mV (.sl 63 (.pair (.int .i64) Ty12)) .s (st 9) fun y9 => mV (.int .i64) .s (st 10) fun y10 => mV (.int .i64) .s (st 11) fun y11 => loopN (B_valid_All_2 (K (.exit 0) (St.ofList []))) (fuel_valid_All_2 ⟨y2, y9, y10, y11⟩) ⟨y2, y9, y10, y11⟩) (fun R st K => by kernel_rfl) ?_
  intro R K st r h
  obtain ⟨y2, hy2, h⟩ := mP_inv h
  obtain ⟨y9, hy9, h⟩ := mV_inv h
  obtain ⟨y10, hy10, h⟩ := mV_inv h
  obtain ⟨y11, hy11, h⟩ := mV_inv h
  exact ⟨⟨y2, y9, y10, y11⟩, only_of_list (ofList_cons hy2 (ofList_cons hy9 (ofList_cons hy10 (ofList_cons hy11 rfl)))), h⟩
theorem loops_valid_All : LoopsOk env_valid_All lp_valid_All inl0 (body Tryz.f16.body) := by
  refine loopsOk_of (fun c hc => ?_) (fun c hc => ?_)
  · rw [show loopsL (body Tryz.f16.body) = [c_valid_All_2] by kernel_rfl] at hc
    simp only [List.mem_cons, List.not_mem_nil, or_false] at hc
    rcases hc with rfl
    · exact ok_valid_All_2
  · rw [show joinsL env_valid_All (body Tryz.f16.body) = [] by kernel_rfl] at hc; cases hc
noncomputable def p_valid_All {R : Type} (a0 : (List ((List (Int)) × (List (Int)) × Unit)) × (List (Int)) × It23) (a1 : It7) (K : Int → Option R) : Option R :=
  let v1 := ((List.length a1.2.2.1 : Nat) : Int)
  loopN (B_valid_All_2 (K (0 : Int))) (fuel_valid_All_2 ⟨a0, a1.2.2.1, v1, (0 : Int)⟩) ⟨a0, a1.2.2.1, v1, (0 : Int)⟩
noncomputable def cs_valid_All : CSpec := { ins := [(.val (.pair Ty8 Ty28) .s), (.val Ty21 .s)], outs := [((.int .i64), .s)], fn := fun (d : ((List ((List (Int)) × (List (Int)) × Unit)) × (List (Int)) × It23) × It7 × Unit) K _ => p_valid_All d.1 d.2.1 (fun r0 => K ((r0, ()) : Int × Unit) ((()) : Unit)) }
theorem h_valid_All : Holds Tryz.prog 16 cs_valid_All := by
  refine holds_of (env := env_valid_All) (inl := inl0) (fn := Tryz.f16) (code := body Tryz.f16.body) (rs := [(4, none)]) (lp := lp_valid_All) mixed ⟨envTyOk.ty, envTyOk.eq⟩ (fun _ _ _ h => by cases h) inl0_ok Tryz.func16 (by kernel_rfl) (by kernel_rfl) (by kernel_rfl) (by kernel_rfl) (by kernel_rfl) loops_valid_All (by kernel_rfl) ?_
  intro d R K Kp res h
  have : evC env_valid_All lp_valid_All inl0 (body Tryz.f16.body) (St.start cs_valid_All.ins d) (retK env_valid_All cs_valid_All.ins cs_valid_All.outs [(4, none)] cs_valid_All.pan K Kp) = cs_valid_All.fn d K Kp := by kernel_rfl
  rw [this]; exact h
-- f8 trammel/load.Load
noncomputable def gam_load_Load : FuncId → List FuncId → Option CSpec
  | 13, [] => some cs_mod_Decode
  | 14, [] => some cs_load_verdict
  | 15, [] => some cs_ctx_Of
  | 16, [] => some cs_valid_All
  | _, _ => none
noncomputable def js_load_Load : Nat → Bool
  | 7 => true
  | _ => false
noncomputable def om_load_Load : TypeId → Md
  | 22 => (.o .s)
  | 25 => (.o (.p (.o .s) (.p (.o .s) .s)))
  | 26 => (.o .s)
  | 27 => (.o (.p .s (.p (.o .s) (.p (.o (.p .s (.p .s (.p .s (.p .s (.p (.o .s) .s)))))) .s))))
  | 28 => (.o .s)
  | 29 => (.o (.p .s (.p .s (.p (.o (.p .s (.p .s (.p .s (.p .s (.p (.o .s) .s)))))) .s))))
  | 30 => (.o .s)
  | 31 => (.o .s)
  | 32 => (.o (.p .s (.p (.o (.p .s (.p .s (.p .s (.p .s (.p (.o .s) .s)))))) (.p (.o .s) .s))))
  | 33 => (.o (.p .s (.p (.o (.p .s (.p .s (.p .s (.p .s (.p (.o .s) .s)))))) (.p (.o .s) .s))))
  | 34 => (.o (.p .s (.p (.o .s) .s)))
  | 35 => (.p (.o (.p (.o .s) (.p (.o .s) .s))) (.p (.o .s) (.p (.o (.p .s (.p (.o .s) (.p (.o (.p .s (.p .s (.p .s (.p .s (.p (.o .s) .s)))))) .s)))) (.p (.o .s) (.p (.o .s) (.p (.o (.p .s (.p .s (.p (.o (.p .s (.p .s (.p .s (.p .s (.p (.o .s) .s)))))) .s)))) (.p (.o .s) (.p (.o .s) (.p (.o (.p .s (.p (.o (.p .s (.p .s (.p .s (.p .s (.p (.o .s) .s)))))) (.p (.o .s) .s)))) (.p (.o .s) (.p (.o (.p .s (.p (.o (.p .s (.p .s (.p .s (.p .s (.p (.o .s) .s)))))) (.p (.o .s) .s)))) (.p (.o (.p .s (.p (.o .s) .s))) .s))))))))))))
  | 36 => (.p (.o (.p (.o .s) (.p (.o .s) .s))) (.p (.o .s) (.p (.o (.p .s (.p (.o .s) (.p (.o (.p .s (.p .s (.p .s (.p .s (.p (.o .s) .s)))))) .s)))) (.p (.o .s) (.p (.o .s) (.p (.o (.p .s (.p .s (.p (.o (.p .s (.p .s (.p .s (.p .s (.p (.o .s) .s)))))) .s)))) (.p (.o .s) (.p (.o .s) (.p (.o (.p .s (.p (.o (.p .s (.p .s (.p .s (.p .s (.p (.o .s) .s)))))) (.p (.o .s) .s)))) (.p (.o .s) (.p (.o (.p .s (.p (.o (.p .s (.p .s (.p .s (.p .s (.p (.o .s) .s)))))) (.p (.o .s) .s)))) (.p (.o (.p .s (.p (.o .s) .s))) .s))))))))))))
  | 37 => (.o .s)
  | 38 => (.p (.o (.p (.o .s) (.p (.o .s) .s))) (.p (.o .s) (.p (.o .s) (.p (.o .s) (.p (.o .s) .s)))))
  | 39 => (.p (.o (.p (.o .s) (.p (.o .s) .s))) (.p (.o .s) (.p (.o .s) (.p (.o .s) (.p (.o .s) .s)))))
  | 54 => (.p (.o .s) (.p (.o .s) .s))
  | 55 => (.p (.o .s) (.p (.o .s) .s))
  | 61 => (.o (.p .s (.p .s (.p .s (.p .s (.p (.o .s) .s))))))
  | 62 => (.p .s (.p (.o .s) (.p (.o (.p .s (.p .s (.p .s (.p .s (.p (.o .s) .s)))))) .s)))
  | 63 => (.p .s (.p (.o .s) (.p (.o (.p .s (.p .s (.p .s (.p .s (.p (.o .s) .s)))))) .s)))
  | 65 => (.p .s (.p .s (.p (.o (.p .s (.p .s (.p .s (.p .s (.p (.o .s) .s)))))) .s)))
  | 66 => (.p .s (.p .s (.p (.o (.p .s (.p .s (.p .s (.p .s (.p (.o .s) .s)))))) .s)))
  | 69 => (.p .s (.p (.o (.p .s (.p .s (.p .s (.p .s (.p (.o .s) .s)))))) (.p (.o .s) .s)))
  | 70 => (.p .s (.p (.o (.p .s (.p .s (.p .s (.p .s (.p (.o .s) .s)))))) (.p (.o .s) .s)))
  | 71 => (.p .s (.p (.o (.p .s (.p .s (.p .s (.p .s (.p (.o .s) .s)))))) (.p (.o .s) .s)))
  | 72 => (.p .s (.p (.o (.p .s (.p .s (.p .s (.p .s (.p (.o .s) .s)))))) (.p (.o .s) .s)))
  | 73 => (.p .s (.p (.o .s) .s))
  | 74 => (.p .s (.p (.o .s) .s))
  | 93 => (.o (.p .s (.p (.o .s) .s)))
  | 96 => (.p .s (.p (.o .s) .s))
  | 97 => (.p .s (.p (.o .s) .s))
  | 101 => (.p (.o .s) .s)
  | 102 => (.p (.o .s) .s)
  | 106 => (.p (.p (.o (.p (.o .s) (.p (.o .s) .s))) (.p (.o .s) (.p (.o .s) (.p (.o .s) (.p (.o .s) .s))))) .s)
  | 107 => (.p (.p (.o (.p (.o .s) (.p (.o .s) .s))) (.p (.o .s) (.p (.o .s) (.p (.o .s) (.p (.o .s) .s))))) .s)
  | 117 => (.p .s (.p .s (.p .s (.p .s (.p (.o .s) .s)))))
  | 118 => (.p .s (.p .s (.p .s (.p .s (.p (.o .s) .s)))))
  | 154 => (.o (.p .s (.p (.o .s) (.p (.o .s) .s))))
  | 155 => (.p (.p (.o (.p (.o .s) (.p (.o .s) .s))) (.p (.o .s) (.p (.o .s) (.p (.o .s) (.p (.o .s) .s))))) (.p (.o .s) (.p (.o .s) (.p (.o (.p .s (.p (.o .s) (.p (.o .s) .s)))) .s))))
  | 156 => (.p (.p (.o (.p (.o .s) (.p (.o .s) .s))) (.p (.o .s) (.p (.o .s) (.p (.o .s) (.p (.o .s) .s))))) (.p (.o .s) (.p (.o .s) (.p (.o (.p .s (.p (.o .s) (.p (.o .s) .s)))) .s))))
  | 177 => (.o .s)
  | 178 => (.p (.o .s) .s)
  | 179 => (.p (.o .s) .s)
  | 183 => (.o (.o .s))
  | 185 => (.p .s (.p (.o .s) (.p (.o .s) .s)))
  | 186 => (.p .s (.p (.o .s) (.p (.o .s) .s)))
  | 212 => (.p (.o .s) .s)
  | 213 => (.p (.o .s) .s)
  | _ => .s
noncomputable def env_load_Load : Env := { ty := envTy, eq := envEq, gam := gam_load_Load, n := Tryz.f8.ntmps, js := js_load_Load, om := om_load_Load }
theorem gamOk_load_Load : EnvFn Tryz.prog env_load_Load := by
  intro f gs c h
  unfold env_load_Load gam_load_Load at h
  simp only at h
  split at h <;> first | (cases h; done) | (cases h; exact h_mod_Decode) | (cases h; exact h_load_verdict) | (cases h; exact h_ctx_Of) | (cases h; exact h_valid_All)
structure Y_load_Load_7 where
  f2 : It7
  f3 : (List ((List (Int)) × (List (Int)) × Unit)) × (List (Int)) × It23
  f6 : It7
  f7 : Int
  f8 : (List ((List (Int)) × (List (Int)) × Unit)) × (List (Int)) × It23

noncomputable def J_load_Load_7 {R : Type} (k_normal : It7 → ((List ((List (Int)) × (List (Int)) × Unit)) × (List (Int)) × It23) → It7 → Int → ((List ((List (Int)) × (List (Int)) × Unit)) × (List (Int)) × It23) → Option R) (x : Y_load_Load_7) : Option R :=
  let v1 := x.f7 == (0 : Int)
  cond v1
  (p_valid_All x.f8 x.f6 fun r2 =>
  k_normal x.f2 x.f3 x.f6 r2 x.f8)
  (k_normal x.f2 x.f3 x.f6 x.f7 x.f8)
noncomputable def Q_load_Load_7 (x : Y_load_Load_7) : St := St.ofList [(2, (.v (.ptr 36 Ty21) (.o (.p (.o (.p (.o .s) (.p (.o .s) .s))) (.p (.o .s) (.p (.o (.p .s (.p (.o .s) (.p (.o (.p .s (.p .s (.p .s (.p .s (.p (.o .s) .s)))))) .s)))) (.p (.o .s) (.p (.o .s) (.p (.o (.p .s (.p .s (.p (.o (.p .s (.p .s (.p .s (.p .s (.p (.o .s) .s)))))) .s)))) (.p (.o .s) (.p (.o .s) (.p (.o (.p .s (.p (.o (.p .s (.p .s (.p .s (.p .s (.p (.o .s) .s)))))) (.p (.o .s) .s)))) (.p (.o .s) (.p (.o (.p .s (.p (.o (.p .s (.p .s (.p .s (.p .s (.p (.o .s) .s)))))) (.p (.o .s) .s)))) (.p (.o (.p .s (.p (.o .s) .s))) .s))))))))))))) (some x.f2))), (3, (.v (.ptr 39 (.pair Ty8 Ty28)) (.o (.p (.o (.p (.o .s) (.p (.o .s) .s))) (.p (.o .s) (.p (.o .s) (.p (.o .s) (.p (.o .s) .s)))))) (some x.f3))), (6, (.v (.ptr 36 Ty21) (.o (.p (.o (.p (.o .s) (.p (.o .s) .s))) (.p (.o .s) (.p (.o (.p .s (.p (.o .s) (.p (.o (.p .s (.p .s (.p .s (.p .s (.p (.o .s) .s)))))) .s)))) (.p (.o .s) (.p (.o .s) (.p (.o (.p .s (.p .s (.p (.o (.p .s (.p .s (.p .s (.p .s (.p (.o .s) .s)))))) .s)))) (.p (.o .s) (.p (.o .s) (.p (.o (.p .s (.p (.o (.p .s (.p .s (.p .s (.p .s (.p (.o .s) .s)))))) (.p (.o .s) .s)))) (.p (.o .s) (.p (.o (.p .s (.p (.o (.p .s (.p .s (.p .s (.p .s (.p (.o .s) .s)))))) (.p (.o .s) .s)))) (.p (.o (.p .s (.p (.o .s) .s))) .s))))))))))))) (some x.f6))), (7, (.v (.int .i64) .s x.f7)), (8, (.v (.ptr 39 (.pair Ty8 Ty28)) (.o (.p (.o (.p (.o .s) (.p (.o .s) .s))) (.p (.o .s) (.p (.o .s) (.p (.o .s) (.p (.o .s) .s)))))) (some x.f8)))]
def jut_load_Load_7 : Ex → List (Nat × Bool) | .normal => [(2, false), (3, false), (6, false), (7, false), (8, false)] | _ => []
noncomputable def j_load_Load_7 : Code := match joinC 7 (body Tryz.f8.body) with | some c => c | none => .skip
noncomputable def lp_load_Load : Loops := fun z i R st K => match z, i with
  | true, 7 => coerce [(2, false), (3, false), (6, false), (7, false), (8, false)] st (fun st => mP 36 Ty21 (.o (.p (.o (.p (.o .s) (.p (.o .s) .s))) (.p (.o .s) (.p (.o (.p .s (.p (.o .s) (.p (.o (.p .s (.p .s (.p .s (.p .s (.p (.o .s) .s)))))) .s)))) (.p (.o .s) (.p (.o .s) (.p (.o (.p .s (.p .s (.p (.o (.p .s (.p .s (.p .s (.p .s (.p (.o .s) .s)))))) .s)))) (.p (.o .s) (.p (.o .s) (.p (.o (.p .s (.p (.o (.p .s (.p .s (.p .s (.p .s (.p (.o .s) .s)))))) (.p (.o .s) .s)))) (.p (.o .s) (.p (.o (.p .s (.p (.o (.p .s (.p .s (.p .s (.p .s (.p (.o .s) .s)))))) (.p (.o .s) .s)))) (.p (.o (.p .s (.p (.o .s) .s))) .s))))))))))))) (st 2) fun y2 => mP 39 (.pair Ty8 Ty28) (.o (.p (.o (.p (.o .s) (.p (.o .s) .s))) (.p (.o .s) (.p (.o .s) (.p (.o .s) (.p (.o .s) .s)))))) (st 3) fun y3 => mP 36 Ty21 (.o (.p (.o (.p (.o .s) (.p (.o .s) .s))) (.p (.o .s) (.p (.o (.p .s (.p (.o .s) (.p (.o (.p .s (.p .s (.p .s (.p .s (.p (.o .s) .s)))))) .s)))) (.p (.o .s) (.p (.o .s) (.p (.o (.p .s (.p .s (.p (.o (.p .s (.p .s (.p .s (.p .s (.p (.o .s) .s)))))) .s)))) (.p (.o .s) (.p (.o .s) (.p (.o (.p .s (.p (.o (.p .s (.p .s (.p .s (.p .s (.p (.o .s) .s)))))) (.p (.o .s) .s)))) (.p (.o .s) (.p (.o (.p .s (.p (.o (.p .s (.p .s (.p .s (.p .s (.p (.o .s) .s)))))) (.p (.o .s) .s)))) (.p (.o (.p .s (.p (.o .s) .s))) .s))))))))))))) (st 6) fun y6 => mV (.int .i64) .s (st 7) fun y7 => mP 39 (.pair Ty8 Ty28) (.o (.p (.o (.p (.o .s) (.p (.o .s) .s))) (.p (.o .s) (.p (.o .s) (.p (.o .s) (.p (.o .s) .s)))))) (st 8) fun y8 => J_load_Load_7 (fun e2 e3 e6 e7 e8 => K .normal (St.ofList [(2, (.v (.ptr 36 Ty21) (.o (.p (.o (.p (.o .s) (.p (.o .s) .s))) (.p (.o .s) (.p (.o (.p .s (.p (.o .s) (.p (.o (.p .s (.p .s (.p .s (.p .s (.p (.o .s) .s)))))) .s)))) (.p (.o .s) (.p (.o .s) (.p (.o (.p .s (.p .s (.p (.o (.p .s (.p .s (.p .s (.p .s (.p (.o .s) .s)))))) .s)))) (.p (.o .s) (.p (.o .s) (.p (.o (.p .s (.p (.o (.p .s (.p .s (.p .s (.p .s (.p (.o .s) .s)))))) (.p (.o .s) .s)))) (.p (.o .s) (.p (.o (.p .s (.p (.o (.p .s (.p .s (.p .s (.p .s (.p (.o .s) .s)))))) (.p (.o .s) .s)))) (.p (.o (.p .s (.p (.o .s) .s))) .s))))))))))))) (some e2))), (3, (.v (.ptr 39 (.pair Ty8 Ty28)) (.o (.p (.o (.p (.o .s) (.p (.o .s) .s))) (.p (.o .s) (.p (.o .s) (.p (.o .s) (.p (.o .s) .s)))))) (some e3))), (6, (.v (.ptr 36 Ty21) (.o (.p (.o (.p (.o .s) (.p (.o .s) .s))) (.p (.o .s) (.p (.o (.p .s (.p (.o .s) (.p (.o (.p .s (.p .s (.p .s (.p .s (.p (.o .s) .s)))))) .s)))) (.p (.o .s) (.p (.o .s) (.p (.o (.p .s (.p .s (.p (.o (.p .s (.p .s (.p .s (.p .s (.p (.o .s) .s)))))) .s)))) (.p (.o .s) (.p (.o .s) (.p (.o (.p .s (.p (.o (.p .s (.p .s (.p .s (.p .s (.p (.o .s) .s)))))) (.p (.o .s) .s)))) (.p (.o .s) (.p (.o (.p .s (.p (.o (.p .s (.p .s (.p .s (.p .s (.p (.o .s) .s)))))) (.p (.o .s) .s)))) (.p (.o (.p .s (.p (.o .s) .s))) .s))))))))))))) (some e6))), (7, (.v (.int .i64) .s e7)), (8, (.v (.ptr 39 (.pair Ty8 Ty28)) (.o (.p (.o (.p (.o .s) (.p (.o .s) .s))) (.p (.o .s) (.p (.o .s) (.p (.o .s) (.p (.o .s) .s)))))) (some e8)))])) ⟨y2, y3, y6, y7, y8⟩)
  | _, _ => none
theorem jstep_load_Load_7 (R : Type) (K : Ex → St → Option R) (x : Y_load_Load_7) : evC env_load_Load lp_load_Load inl0 j_load_Load_7 (Q_load_Load_7 x) (fun e st => coerce (jut_load_Load_7 e) st (K e)) = J_load_Load_7 (fun e2 e3 e6 e7 e8 => K .normal (St.ofList [(2, (.v (.ptr 36 Ty21) (.o (.p (.o (.p (.o .s) (.p (.o .s) .s))) (.p (.o .s) (.p (.o (.p .s (.p (.o .s) (.p (.o (.p .s (.p .s (.p .s (.p .s (.p (.o .s) .s)))))) .s)))) (.p (.o .s) (.p (.o .s) (.p (.o (.p .s (.p .s (.p (.o (.p .s (.p .s (.p .s (.p .s (.p (.o .s) .s)))))) .s)))) (.p (.o .s) (.p (.o .s) (.p (.o (.p .s (.p (.o (.p .s (.p .s (.p .s (.p .s (.p (.o .s) .s)))))) (.p (.o .s) .s)))) (.p (.o .s) (.p (.o (.p .s (.p (.o (.p .s (.p .s (.p .s (.p .s (.p (.o .s) .s)))))) (.p (.o .s) .s)))) (.p (.o (.p .s (.p (.o .s) .s))) .s))))))))))))) (some e2))), (3, (.v (.ptr 39 (.pair Ty8 Ty28)) (.o (.p (.o (.p (.o .s) (.p (.o .s) .s))) (.p (.o .s) (.p (.o .s) (.p (.o .s) (.p (.o .s) .s)))))) (some e3))), (6, (.v (.ptr 36 Ty21) (.o (.p (.o (.p (.o .s) (.p (.o .s) .s))) (.p (.o .s) (.p (.o (.p .s (.p (.o .s) (.p (.o (.p .s (.p .s (.p .s (.p .s (.p (.o .s) .s)))))) .s)))) (.p (.o .s) (.p (.o .s) (.p (.o (.p .s (.p .s (.p (.o (.p .s (.p .s (.p .s (.p .s (.p (.o .s) .s)))))) .s)))) (.p (.o .s) (.p (.o .s) (.p (.o (.p .s (.p (.o (.p .s (.p .s (.p .s (.p .s (.p (.o .s) .s)))))) (.p (.o .s) .s)))) (.p (.o .s) (.p (.o (.p .s (.p (.o (.p .s (.p .s (.p .s (.p .s (.p (.o .s) .s)))))) (.p (.o .s) .s)))) (.p (.o (.p .s (.p (.o .s) .s))) .s))))))))))))) (some e6))), (7, (.v (.int .i64) .s e7)), (8, (.v (.ptr 39 (.pair Ty8 Ty28)) (.o (.p (.o (.p (.o .s) (.p (.o .s) .s))) (.p (.o .s) (.p (.o .s) (.p (.o .s) (.p (.o .s) .s)))))) (some e8)))])) x := by kernel_rfl
theorem jok_load_Load_7 : JoinOk env_load_Load lp_load_Load inl0 j_load_Load_7 7 := by
  refine joinOk_of (hd := [(2, false), (3, false), (6, false), (7, false), (8, false)]) (out := jut_load_Load_7) (S := Q_load_Load_7) (fun _ K => J_load_Load_7 (fun e2 e3 e6 e7 e8 => K .normal (St.ofList [(2, (.v (.ptr 36 Ty21) (.o (.p (.o (.p (.o .s) (.p (.o .s) .s))) (.p (.o .s) (.p (.o (.p .s (.p (.o .s) (.p (.o (.p .s (.p .s (.p .s (.p .s (.p (.o .s) .s)))))) .s)))) (.p (.o .s) (.p (.o .s) (.p (.o (.p .s (.p .s (.p (.o (.p .s (.p .s (.p .s (.p .s (.p (.o .s) .s)))))) .s)))) (.p (.o .s) (.p (.o .s) (.p (.o (.p .s (.p (.o (.p .s (.p .s (.p .s (.p .s (.p (.o .s) .s)))))) (.p (.o .s) .s)))) (.p (.o .s) (.p (.o (.p .s (.p (.o (.p .s (.p .s (.p .s (.p .s (.p (.o .s) .s)))))) (.p (.o .s) .s)))) (.p (.o (.p .s (.p (.o .s) .s))) .s))))))))))))) (some e2))), (3, (.v (.ptr 39 (.pair Ty8 Ty28)) (.o (.p (.o (.p (.o .s) (.p (.o .s) .s))) (.p (.o .s) (.p (.o .s) (.p (.o .s) (.p (.o .s) .s)))))) (some e3))), (6, (.v (.ptr 36 Ty21) (.o (.p (.o (.p (.o .s) (.p (.o .s) .s))) (.p (.o .s) (.p (.o (.p .s (.p (.o .s) (.p (.o (.p .s (.p .s (.p .s (.p .s (.p (.o .s) .s)))))) .s)))) (.p (.o .s) (.p (.o .s) (.p (.o (.p .s (.p .s (.p (.o (.p .s (.p .s (.p .s (.p .s (.p (.o .s) .s)))))) .s)))) (.p (.o .s) (.p (.o .s) (.p (.o (.p .s (.p (.o (.p .s (.p .s (.p .s (.p .s (.p (.o .s) .s)))))) (.p (.o .s) .s)))) (.p (.o .s) (.p (.o (.p .s (.p (.o (.p .s (.p .s (.p .s (.p .s (.p (.o .s) .s)))))) (.p (.o .s) .s)))) (.p (.o (.p .s (.p (.o .s) .s))) .s))))))))))))) (some e6))), (7, (.v (.int .i64) .s e7)), (8, (.v (.ptr 39 (.pair Ty8 Ty28)) (.o (.p (.o (.p (.o .s) (.p (.o .s) .s))) (.p (.o .s) (.p (.o .s) (.p (.o .s) (.p (.o .s) .s)))))) (some e8)))]))) 7 jstep_load_Load_7 (fun R K => fun st => mP 36 Ty21 (.o (.p (.o (.p (.o .s) (.p (.o .s) .s))) (.p (.o .s) (.p (.o (.p .s (.p (.o .s) (.p (.o (.p .s (.p .s (.p .s (.p .s (.p (.o .s) .s)))))) .s)))) (.p (.o .s) (.p (.o .s) (.p (.o (.p .s (.p .s (.p (.o (.p .s (.p .s (.p .s (.p .s (.p (.o .s) .s)))))) .s)))) (.p (.o .s) (.p (.o .s) (.p (.o (.p .s (.p (.o (.p .s (.p .s (.p .s (.p .s (.p (.o .s) .s)))))) (.p (.o .s) .s)))) (.p (.o .s) (.p (.o (.p .s (.p (.o (.p .s (.p .s (.p .s (.p .s (.p (.o .s) .s)))))) (.p (.o .s) .s)))) (.p (.o (.p .s (.p (.o .s) .s))) .s))))))))))))) (st 2) fun y2 => mP 39 (.pair Ty8 Ty28) (.o (.p (.o (.p (.o .s) (.p (.o .s) .s))) (.p (.o .s) (.p (.o .s) (.p (.o .s) (.p (.o .s) .s)))))) (st 3) fun y3 => mP 36 Ty21 (.o (.p (.o (.p (.o .s) (.p (.o .s) .s))) (.p (.o .s) (.p (.o (.p .s (.p (.o .s) (.p (.o (.p .s (.p .s (.p .s (.p .s (.p (.o .s) .s)))))) .s)))) (.p (.o .s) (.p (.o .s) (.p (.o (.p .s (.p .s (.p (.o (.p .s (.p .s (.p .s (.p .s (.p (.o .s) .s)))))) .s)))) (.p (.o .s) (.p (.o .s) (.p (.o (.p .s (.p (.o (.p .s (.p .s (.p .s (.p .s (.p (.o .s) .s)))))) (.p (.o .s) .s)))) (.p (.o .s) (.p (.o (.p .s (.p (.o (.p .s (.p .s (.p .s (.p .s (.p (.o .s) .s)))))) (.p (.o .s) .s)))) (.p (.o (.p .s (.p (.o .s) .s))) .s))))))))))))) (st 6) fun y6 => mV (.int .i64) .s (st 7) fun y7 => mP 39 (.pair Ty8 Ty28) (.o (.p (.o (.p (.o .s) (.p (.o .s) .s))) (.p (.o .s) (.p (.o .s) (.p (.o .s) (.p (.o .s) .s)))))) (st 8) fun y8 => J_load_Load_7 (fun e2 e3 e6 e7 e8 => K .normal (St.ofList [(2, (.v (.ptr 36 Ty21) (.o (.p (.o (.p (.o .s) (.p (.o .s) .s))) (.p (.o .s) (.p (.o (.p .s (.p (.o .s) (.p (.o (.p .s (.p .s (.p .s (.p .s (.p (.o .s) .s)))))) .s)))) (.p (.o .s) (.p (.o .s) (.p (.o (.p .s (.p .s (.p (.o (.p .s (.p .s (.p .s (.p .s (.p (.o .s) .s)))))) .s)))) (.p (.o .s) (.p (.o .s) (.p (.o (.p .s (.p (.o (.p .s (.p .s (.p .s (.p .s (.p (.o .s) .s)))))) (.p (.o .s) .s)))) (.p (.o .s) (.p (.o (.p .s (.p (.o (.p .s (.p .s (.p .s (.p .s (.p (.o .s) .s)))))) (.p (.o .s) .s)))) (.p (.o (.p .s (.p (.o .s) .s))) .s))))))))))))) (some e2))), (3, (.v (.ptr 39 (.pair Ty8 Ty28)) (.o (.p (.o (.p (.o .s) (.p (.o .s) .s))) (.p (.o .s) (.p (.o .s) (.p (.o .s) (.p (.o .s) .s)))))) (some e3))), (6, (.v (.ptr 36 Ty21) (.o (.p (.o (.p (.o .s) (.p (.o .s) .s))) (.p (.o .s) (.p (.o (.p .s (.p (.o .s) (.p (.o (.p .s (.p .s (.p .s (.p .s (.p (.o .s) .s)))))) .s)))) (.p (.o .s) (.p (.o .s) (.p (.o (.p .s (.p .s (.p (.o (.p .s (.p .s (.p .s (.p .s (.p (.o .s) .s)))))) .s)))) (.p (.o .s) (.p (.o .s) (.p (.o (.p .s (.p (.o (.p .s (.p .s (.p .s (.p .s (.p (.o .s) .s)))))) (.p (.o .s) .s)))) (.p (.o .s) (.p (.o (.p .s (.p (.o (.p .s (.p .s (.p .s (.p .s (.p (.o .s) .s)))))) (.p (.o .s) .s)))) (.p (.o (.p .s (.p (.o .s) .s))) .s))))))))))))) (some e6))), (7, (.v (.int .i64) .s e7)), (8, (.v (.ptr 39 (.pair Ty8 Ty28)) (.o (.p (.o (.p (.o .s) (.p (.o .s) .s))) (.p (.o .s) (.p (.o .s) (.p (.o .s) (.p (.o .s) .s)))))) (some e8)))])) ⟨y2, y3, y6, y7, y8⟩) (fun R st K => by kernel_rfl) ?_
  intro R K st r h
  obtain ⟨y2, hy2, h⟩ := mP_inv h
  obtain ⟨y3, hy3, h⟩ := mP_inv h
  obtain ⟨y6, hy6, h⟩ := mP_inv h
  obtain ⟨y7, hy7, h⟩ := mV_inv h
  obtain ⟨y8, hy8, h⟩ := mP_inv h
  exact ⟨⟨y2, y3, y6, y7, y8⟩, only_of_list (ofList_cons hy2 (ofList_cons hy3 (ofList_cons hy6 (ofList_cons hy7 (ofList_cons hy8 rfl))))), h⟩
theorem loops_load_Load : LoopsOk env_load_Load lp_load_Load inl0 (body Tryz.f8.body) := by
  refine loopsOk_of (fun c hc => ?_) (fun c hc => ?_)
  · rw [show loopsL (body Tryz.f8.body) = [] by kernel_rfl] at hc; cases hc
  · rw [show joinsL env_load_Load (body Tryz.f8.body) = [(j_load_Load_7, 7)] by kernel_rfl] at hc
    simp only [List.mem_cons, List.not_mem_nil, or_false] at hc
    rcases hc with rfl
    · exact jok_load_Load_7
noncomputable def p_load_Load {R : Type} (a0 : List (Int)) (K : It7 → ((List ((List (Int)) × (List (Int)) × Unit)) × (List (Int)) × It23) → Int → Int → Option R) : Option R :=
  p_mod_Decode a0 fun r1 r2 =>
  let v3 := r2 != (0 : Int)
  cond v3
  (p_load_verdict r2 (1 : Int) fun r4 =>
  K (([] : List ((List (Int)) × (List (Int)) × Unit)), (([] : List ((List UInt8) × It0)), (([] : List ((Int) × It1)), (([] : List ((Int) × (Bool) × (Int) × Unit)), (([] : List ((Int) × (Bool) × (Int) × Unit)), (([] : List ((Int) × It2)), (([] : List ((List UInt8) × (Int) × (Int) × Unit)), (([] : List (Int)), (([] : List ((Int) × It3)), (([] : List (Int)), (([] : List ((Int) × It3)), (([] : List ((List UInt8) × (List (Int)) × Unit)), ())))))))))))) (([] : List ((List (Int)) × (List (Int)) × Unit)), (([] : List (Int)), (([] : List ((Int) × (Bool) × Unit)), (([] : List ((Int) × (Bool) × (Int) × Unit)), (([] : List ((Int) × (Bool) × (Int) × Unit)), ((0 : Int), ((0 : Int), ((0 : Int), ((0 : Int), (false, ())))))))))) r4 r2)
  (p_ctx_Of r1 fun r5 r6 =>
  J_load_Load_7 (fun w7 w8 w9 w10 w11 =>
  let v12 := w10 != (0 : Int)
  cond v12
  (p_load_verdict w10 (3 : Int) fun r13 =>
  K (([] : List ((List (Int)) × (List (Int)) × Unit)), (([] : List ((List UInt8) × It0)), (([] : List ((Int) × It1)), (([] : List ((Int) × (Bool) × (Int) × Unit)), (([] : List ((Int) × (Bool) × (Int) × Unit)), (([] : List ((Int) × It2)), (([] : List ((List UInt8) × (Int) × (Int) × Unit)), (([] : List (Int)), (([] : List ((Int) × It3)), (([] : List (Int)), (([] : List ((Int) × It3)), (([] : List ((List UInt8) × (List (Int)) × Unit)), ())))))))))))) (([] : List ((List (Int)) × (List (Int)) × Unit)), (([] : List (Int)), (([] : List ((Int) × (Bool) × Unit)), (([] : List ((Int) × (Bool) × (Int) × Unit)), (([] : List ((Int) × (Bool) × (Int) × Unit)), ((0 : Int), ((0 : Int), ((0 : Int), ((0 : Int), (false, ())))))))))) r13 w10)
  (both
  (both
  (K w9 w11 (4 : Int) (0 : Int))
  (K w9 w11 (4 : Int) (0 : Int)))
  (K w9 w11 (4 : Int) (0 : Int)))) ⟨(([] : List ((List (Int)) × (List (Int)) × Unit)), (([] : List ((List UInt8) × It0)), (([] : List ((Int) × It1)), (([] : List ((Int) × (Bool) × (Int) × Unit)), (([] : List ((Int) × (Bool) × (Int) × Unit)), (([] : List ((Int) × It2)), (([] : List ((List UInt8) × (Int) × (Int) × Unit)), (([] : List (Int)), (([] : List ((Int) × It3)), (([] : List (Int)), (([] : List ((Int) × It3)), (([] : List ((List UInt8) × (List (Int)) × Unit)), ())))))))))))), (([] : List ((List (Int)) × (List (Int)) × Unit)), (([] : List (Int)), (([] : List ((Int) × (Bool) × Unit)), (([] : List ((Int) × (Bool) × (Int) × Unit)), (([] : List ((Int) × (Bool) × (Int) × Unit)), ((0 : Int), ((0 : Int), ((0 : Int), ((0 : Int), (false, ())))))))))), r1, r6, r5⟩)
noncomputable def cs_load_Load : CSpec := { ins := [(.val (.sl 5 (.int .u8)) .s)], outs := [(Ty21, (.p (.o (.p (.o .s) (.p (.o .s) .s))) (.p (.o .s) (.p (.o (.p .s (.p (.o .s) (.p (.o (.p .s (.p .s (.p .s (.p .s (.p (.o .s) .s)))))) .s)))) (.p (.o .s) (.p (.o .s) (.p (.o (.p .s (.p .s (.p (.o (.p .s (.p .s (.p .s (.p .s (.p (.o .s) .s)))))) .s)))) (.p (.o .s) (.p (.o .s) (.p (.o (.p .s (.p (.o (.p .s (.p .s (.p .s (.p .s (.p (.o .s) .s)))))) (.p (.o .s) .s)))) (.p (.o .s) (.p (.o (.p .s (.p (.o (.p .s (.p .s (.p .s (.p .s (.p (.o .s) .s)))))) (.p (.o .s) .s)))) (.p (.o (.p .s (.p (.o .s) .s))) .s))))))))))))), ((.pair Ty8 Ty28), (.p (.o (.p (.o .s) (.p (.o .s) .s))) (.p (.o .s) (.p (.o .s) (.p (.o .s) (.p (.o .s) .s)))))), ((.int .i64), .s), ((.int .i64), .s)], fn := fun (d : (List (Int)) × Unit) K _ => p_load_Load d.1 (fun r0 r1 r2 r3 => K ((r0, r1, r2, r3, ()) : It7 × ((List ((List (Int)) × (List (Int)) × Unit)) × (List (Int)) × It23) × Int × Int × Unit) ((()) : Unit)) }
theorem h_load_Load : Holds Tryz.prog 8 cs_load_Load := by
  refine holds_of (env := env_load_Load) (inl := inl0) (fn := Tryz.f8) (code := body Tryz.f8.body) (rs := [(2, some 36), (3, some 39), (4, none), (5, none)]) (lp := lp_load_Load) mixed ⟨envTyOk.ty, envTyOk.eq⟩ gamOk_load_Load inl0_ok Tryz.func8 (by kernel_rfl) (by kernel_rfl) (by kernel_rfl) (by kernel_rfl) (by kernel_rfl) loops_load_Load (by kernel_rfl) ?_
  intro d R K Kp res h
  have : evC env_load_Load lp_load_Load inl0 (body Tryz.f8.body) (St.start cs_load_Load.ins d) (retK env_load_Load cs_load_Load.ins cs_load_Load.outs [(2, some 36), (3, some 39), (4, none), (5, none)] cs_load_Load.pan K Kp) = cs_load_Load.fn d K Kp := by kernel_rfl
  rw [this]; exact h
-- f6 trammel/trammellaw11.awake
noncomputable def gam_law11_awake : FuncId → List FuncId → Option CSpec
  | 8, [] => some cs_load_Load
  | _, _ => none
noncomputable def fs_law11_awake : Nat → Bool
  | 1 => true
  | 2 => true
  | 5 => true
  | 6 => true
  | _ => false
noncomputable def env_law11_awake : Env := { ty := envTy, eq := envEq, gam := gam_law11_awake, n := Tryz.f6.ntmps, fs := fs_law11_awake }
theorem gamOk_law11_awake : EnvFn Tryz.prog env_law11_awake := by
  intro f gs c h
  unfold env_law11_awake gam_law11_awake at h
  simp only at h
  split at h <;> first | (cases h; done) | (cases h; exact h_load_Load)
noncomputable def p_law11_awake {R : Type}  (K : Bool → Option R) : Option R :=
  p_load_Load ([] : List (Int)) fun r1 r2 r3 r4 =>
  let v5 := List.set (List.set (List.set (List.set (List.set (List.set (List.set (List.set (List.replicate 8 (0 : Int)) 0 (0 : Int)) 1 (97 : Int)) 2 (115 : Int)) 3 (109 : Int)) 4 (1 : Int)) 5 (0 : Int)) 6 (0 : Int)) 7 (0 : Int)
  cond (Nat.blt 0 (List.length v5))
  (p_load_Load v5 fun r6 r7 r8 r9 =>
  let v10 := r3 == (1 : Int)
  cond v10
  (let v11 := r4 == (1 : Int)
  cond v11
  (let v12 := r8 == (4 : Int)
  cond v12
  (let v13 := r9 == (0 : Int)
  K v13)
  (K false))
  (K false))
  (K false)) none
noncomputable def cs_law11_awake : CSpec := { ins := [], outs := [(.bool, .s)], fn := fun (d : Unit) K _ => p_law11_awake  (fun r0 => K ((r0, ()) : Bool × Unit) ((()) : Unit)) }
theorem h_law11_awake : Holds Tryz.prog 6 cs_law11_awake := by
  refine holds_of (env := env_law11_awake) (inl := inl0) (fn := Tryz.f6) (code := body Tryz.f6.body) (rs := [(0, none)]) (lp := lp0) mixed ⟨envTyOk.ty, envTyOk.eq⟩ gamOk_law11_awake inl0_ok Tryz.func6 (by kernel_rfl) (by kernel_rfl) (by kernel_rfl) (by kernel_rfl) (by kernel_rfl) (loopsOk_none (by kernel_rfl) (by kernel_rfl)) (by kernel_rfl) ?_
  intro d R K Kp res h
  have : evC env_law11_awake lp0 inl0 (body Tryz.f6.body) (St.start cs_law11_awake.ins d) (retK env_law11_awake cs_law11_awake.ins cs_law11_awake.outs [(0, none)] cs_law11_awake.pan K Kp) = cs_law11_awake.fn d K Kp := by kernel_rfl
  rw [this]; exact h
-- f17 trammel/trammelref08.more
noncomputable def env_ref08_more : Env := { ty := envTy, eq := envEq, gam := noG, n := Tryz.f17.ntmps }
noncomputable def p_ref08_more {R : Type} (a0 : Int) (a1 : Int) (K : Int → Option R) : Option R :=
  let v1 := decide (a0 < (0 : Int))
  cond v1
  (K (-1 : Int))
  (let v2 := decide (a1 > (3000 : Int))
  cond v2
  (K (-1 : Int))
  (let v3 := IntKind.i64.wrap (a0 + a1)
  let v4 := decide (v3 > (3000 : Int))
  cond v4
  (K (-1 : Int))
  (let v5 := IntKind.i64.wrap (a0 + a1)
  K v5)))
noncomputable def cs_ref08_more : CSpec := { ins := [(.val (.int .i64) .s), (.val (.int .i64) .s)], outs := [((.int .i64), .s)], fn := fun (d : Int × Int × Unit) K _ => p_ref08_more d.1 d.2.1 (fun r0 => K ((r0, ()) : Int × Unit) ((()) : Unit)) }
theorem h_ref08_more : Holds Tryz.prog 17 cs_ref08_more := by
  refine holds_of (env := env_ref08_more) (inl := inl0) (fn := Tryz.f17) (code := body Tryz.f17.body) (rs := [(4, none)]) (lp := lp0) mixed ⟨envTyOk.ty, envTyOk.eq⟩ (fun _ _ _ h => by cases h) inl0_ok Tryz.func17 (by kernel_rfl) (by kernel_rfl) (by kernel_rfl) (by kernel_rfl) (by kernel_rfl) (loopsOk_none (by kernel_rfl) (by kernel_rfl)) (by kernel_rfl) ?_
  intro d R K Kp res h
  have : evC env_ref08_more lp0 inl0 (body Tryz.f17.body) (St.start cs_ref08_more.ins d) (retK env_ref08_more cs_ref08_more.ins cs_ref08_more.outs [(4, none)] cs_ref08_more.pan K Kp) = cs_ref08_more.fn d K Kp := by kernel_rfl
  rw [this]; exact h
-- f18 trammel/trammelref08.bodySize
noncomputable def gam_ref08_bodySize : FuncId → List FuncId → Option CSpec
  | 17, [] => some cs_ref08_more
  | _, _ => none
noncomputable def env_ref08_bodySize : Env := { ty := envTy, eq := envEq, gam := gam_ref08_bodySize, n := Tryz.f18.ntmps }
theorem gamOk_ref08_bodySize : EnvFn Tryz.prog env_ref08_bodySize := by
  intro f gs c h
  unfold env_ref08_bodySize gam_ref08_bodySize at h
  simp only at h
  split at h <;> first | (cases h; done) | (cases h; exact h_ref08_more)
structure X_ref08_bodySize_3 where
  f0 : Int
  f1 : List ((Int) × (Int) × (Int) × (Int) × (List (Int)) × Unit)
  f5 : Int

noncomputable def B_ref08_bodySize_3 {R : Type} (k_exit_0 : Int → Option R) (rec : X_ref08_bodySize_3 → Option R) (x : X_ref08_bodySize_3) : Option R :=
  let v1 := ((List.length x.f1 : Nat) : Int)
  let v2 := decide (x.f5 < v1)
  cond v2
  (let v3 := decide (x.f0 ≥ (0 : Int))
  cond v3
  (cond (inB x.f5 (List.length x.f1))
  (let v4 := List.getD x.f1 x.f5.toNat ((0 : Int), ((0 : Int), ((0 : Int), ((0 : Int), (([] : List (Int)), ())))))
  let v5 := ((List.length v4.2.2.2.2.1 : Nat) : Int)
  p_ref08_more x.f0 v5 fun r6 =>
  let v7 := IntKind.i64.wrap (x.f5 + (1 : Int))
  rec ⟨r6, x.f1, v7⟩) none)
  (k_exit_0 x.f0))
  (k_exit_0 x.f0)
noncomputable def S_ref08_bodySize_3 (x : X_ref08_bodySize_3) : St := St.ofList [(0, (.v (.int .i64) .s x.f0)), (1, (.v (.sl 118 (.pair (.int .i64) (.pair (.int .i64) Ty11))) .s x.f1)), (5, (.v (.int .i64) .s x.f5))]
def out_ref08_bodySize_3 : Ex → List (Nat × Bool) | .exit 0 => [(0, false)] | _ => []
noncomputable def fuel_ref08_bodySize_3 (x : X_ref08_bodySize_3) : Nat := fuel64
noncomputable def c_ref08_bodySize_3 : Code := match loopAt 3 (body Tryz.f18.body) with | some c => c | none => .skip
noncomputable def lp_ref08_bodySize : Loops := fun z i R st K => match z, i with
  | false, 3 => coerce [(0, false), (1, false), (5, false)] st (fun st => mV (.int .i64) .s (st 0) fun y0 => mV (.sl 118 (.pair (.int .i64) (.pair (.int .i64) Ty11))) .s (st 1) fun y1 => mV (.int .i64) .s (st 5) fun y5 => loopN (B_ref08_bodySize_3 (fun e0 => K (.exit 0) (St.ofList [(0, (.v (.int .i64) .s e0))]))) (fuel_ref08_bodySize_3 ⟨y0, y1, y5⟩) ⟨y0, y1, y5⟩)
  | _, _ => none
theorem step_ref08_bodySize_3 (R : Type) (K : Ex → St → Option R) (rec : St → Option R) (x : X_ref08_bodySize_3) : evC env_ref08_bodySize lp_ref08_bodySize inl0 c_ref08_bodySize_3 (S_ref08_bodySize_3 x) (fun e st => match e with | .normal => coerce [(0, false), (1, false), (5, false)] st rec | e => coerce (out_ref08_bodySize_3 e) st (K e)) = B_ref08_bodySize_3 (fun e0 => K (.exit 0) (St.ofList [(0, (.v (.int .i64) .s e0))])) (fun x => rec (S_ref08_bodySize_3 x)) x := by kernel_rfl
theorem ok_ref08_bodySize_3 : LoopOk env_ref08_bodySize lp_ref08_bodySize inl0 c_ref08_bodySize_3 := by
  refine loopOk_of (hd := [(0, false), (1, false), (5, false)]) (out := out_ref08_bodySize_3) (S := S_ref08_bodySize_3) (fun _ K => B_ref08_bodySize_3 (fun e0 => K (.exit 0) (St.ofList [(0, (.v (.int .i64) .s e0))]))) fuel_ref08_bodySize_3 3 step_ref08_bodySize_3 (by kernel_rfl) (fun R K => fun st => mV (.int .i64) .s (st 0) fun y0 => mV (.sl 118 (.pair (.int .i64) (.pair (.int .i64) Ty11))) .s (st 1) fun y1 => mV (.int .i64) .s (st 5) fun y5 => loopN (B_ref08_bodySize_3 (fun e0 => K (.exit 0) (St.ofList [(0, (.v (.int .i64) .s e0))]))) (fuel_ref08_bodySize_3 ⟨y0, y1, y5⟩) ⟨y0, y1, y5⟩) (fun R st K => by kernel_rfl) ?_
  intro R K st r h
  obtain ⟨y0, hy0, h⟩ := mV_inv h
  obtain ⟨y1, hy1, h⟩ := mV_inv h
  obtain ⟨y5, hy5, h⟩ := mV_inv h
  exact ⟨⟨y0, y1, y5⟩, only_of_list (ofList_cons hy0 (ofList_cons hy1 (ofList_cons hy5 rfl))), h⟩
theorem loops_ref08_bodySize : LoopsOk env_ref08_bodySize lp_ref08_bodySize inl0 (body Tryz.f18.body) := by
  refine loopsOk_of (fun c hc => ?_) (fun c hc => ?_)
  · rw [show loopsL (body Tryz.f18.body) = [c_ref08_bodySize_3] by kernel_rfl] at hc
    simp only [List.mem_cons, List.not_mem_nil, or_false] at hc
    rcases hc with rfl
    · exact ok_ref08_bodySize_3
  · rw [show joinsL env_ref08_bodySize (body Tryz.f18.body) = [] by kernel_rfl] at hc; cases hc
noncomputable def p_ref08_bodySize {R : Type} (a0 : Int) (a1 : List ((Int) × (Int) × (Int) × (Int) × (List (Int)) × Unit)) (K : Int → Option R) : Option R :=
  let v1 := ((List.length a1 : Nat) : Int)
  p_ref08_more a0 v1 fun r2 =>
  loopN (B_ref08_bodySize_3 (fun w3 =>
  K w3)) (fuel_ref08_bodySize_3 ⟨r2, a1, (0 : Int)⟩) ⟨r2, a1, (0 : Int)⟩
noncomputable def cs_ref08_bodySize : CSpec := { ins := [(.val (.int .i64) .s), (.val (.sl 118 (.pair (.int .i64) (.pair (.int .i64) Ty11))) .s)], outs := [((.int .i64), .s)], fn := fun (d : Int × (List ((Int) × (Int) × (Int) × (Int) × (List (Int)) × Unit)) × Unit) K _ => p_ref08_bodySize d.1 d.2.1 (fun r0 => K ((r0, ()) : Int × Unit) ((()) : Unit)) }
theorem h_ref08_bodySize : Holds Tryz.prog 18 cs_ref08_bodySize := by
  refine holds_of (env := env_ref08_bodySize) (inl := inl0) (fn := Tryz.f18) (code := body Tryz.f18.body) (rs := [(4, none)]) (lp := lp_ref08_bodySize) mixed ⟨envTyOk.ty, envTyOk.eq⟩ gamOk_ref08_bodySize inl0_ok Tryz.func18 (by kernel_rfl) (by kernel_rfl) (by kernel_rfl) (by kernel_rfl) (by kernel_rfl) loops_ref08_bodySize (by kernel_rfl) ?_
  intro d R K Kp res h
  have : evC env_ref08_bodySize lp_ref08_bodySize inl0 (body Tryz.f18.body) (St.start cs_ref08_bodySize.ins d) (retK env_ref08_bodySize cs_ref08_bodySize.ins cs_ref08_bodySize.outs [(4, none)] cs_ref08_bodySize.pan K Kp) = cs_ref08_bodySize.fn d K Kp := by kernel_rfl
  rw [this]; exact h
-- f9 trammel/trammelref08.Short
noncomputable def gam_ref08_Short : FuncId → List FuncId → Option CSpec
  | 17, [] => some cs_ref08_more
  | 18, [] => some cs_ref08_bodySize
  | _, _ => none
noncomputable def fz_ref08_Short : Nat → Bool
  | 1 => true
  | _ => false
noncomputable def fs_ref08_Short : Nat → Bool
  | 7 => true
  | 9 => true
  | 11 => true
  | 13 => true
  | 15 => true
  | 17 => true
  | 19 => true
  | 21 => true
  | _ => false
noncomputable def lv_ref08_Short : Nat → Option (List Nat)
  | 0 => some [0]
  | 1 => some [1]
  | 2 => some [1, 58, 59, 60]
  | 3 => some [1, 58, 59, 60]
  | 4 => some [1, 4, 58, 59, 60]
  | 5 => some []
  | 6 => some [1, 58, 59, 60]
  | 7 => some [1]
  | 8 => some [1, 5]
  | 9 => some [1, 5, 68, 69, 70]
  | 10 => some [1, 5, 68, 69, 70]
  | 11 => some [1, 5, 7, 68, 69, 70]
  | 12 => some [1, 5, 68, 69, 70]
  | 13 => some [1, 5]
  | 14 => some [1, 5, 85, 86, 87]
  | 15 => some [1, 5, 85, 86, 87]
  | 16 => some [1, 5, 9, 85, 86, 87]
  | 17 => some [1, 5, 85, 86, 87]
  | 18 => some [1, 5]
  | 19 => some [1, 5, 102, 103, 104]
  | 20 => some [1, 5, 102, 103, 104]
  | 21 => some [1, 5, 11, 102, 103, 104]
  | 22 => some [1, 5, 102, 103, 104]
  | 23 => some [1, 5]
  | 24 => some [1, 5, 118, 119, 120]
  | 25 => some [1, 5, 118, 119, 120]
  | 26 => some [1, 5, 13, 118, 119, 120]
  | 27 => some [1, 5, 118, 119, 120]
  | 28 => some [1, 5]
  | 29 => some [1, 5, 130, 131, 132]
  | 30 => some [1, 5, 130, 131, 132]
  | 31 => some [1, 5, 15, 130, 131, 132]
  | 32 => some [1, 5, 130, 131, 132]
  | 33 => some [1, 5]
  | 34 => some [1, 5, 143, 144, 145]
  | 35 => some [1, 5, 143, 144, 145]
  | 36 => some [1, 5, 17, 143, 144, 145]
  | 37 => some [1, 5, 143, 144, 145]
  | 38 => some [1, 5]
  | 39 => some [1, 5, 159, 160, 161]
  | 40 => some [1, 5, 159, 160, 161]
  | 41 => some [1, 5, 19, 159, 160, 161]
  | 42 => some [1, 5, 159, 160, 161]
  | 43 => some [1, 5]
  | 44 => some [5, 175, 176, 177]
  | 45 => some [5, 175, 176, 177]
  | 46 => some [5, 21, 175, 176, 177]
  | 47 => some [5, 175, 176, 177]
  | 48 => some [5]
  | _ => none
noncomputable def env_ref08_Short : Env := { ty := envTy, eq := envEq, gam := gam_ref08_Short, n := Tryz.f9.ntmps, fz := fz_ref08_Short, fs := fs_ref08_Short, lv := lv_ref08_Short }
theorem gamOk_ref08_Short : EnvFn Tryz.prog env_ref08_Short := by
  intro f gs c h
  unfold env_ref08_Short gam_ref08_Short at h
  simp only at h
  split at h <;> first | (cases h; done) | (cases h; exact h_ref08_more) | (cases h; exact h_ref08_bodySize)
structure X_ref08_Short_2 where
  f1 : It7
  f58 : List (Int)
  f59 : Int
  f60 : Int

noncomputable def B_ref08_Short_2 {R : Type} (k_ret : Bool → Option R) (k_exit_0 : It7 → Option R) (rec : X_ref08_Short_2 → Option R) (x : X_ref08_Short_2) : Option R :=
  let v1 := decide (x.f60 < x.f59)
  cond v1
  (cond (inB x.f60 (List.length x.f58))
  (let v2 := (List.getD x.f58 x.f60.toNat (0 : Int))
  let v3 := decide (v2 > (70 : Int))
  cond v3
  (k_ret false)
  (let v4 := IntKind.i64.wrap (x.f60 + (1 : Int))
  rec ⟨x.f1, x.f58, x.f59, v4⟩)) none)
  (k_exit_0 x.f1)
noncomputable def S_ref08_Short_2 (x : X_ref08_Short_2) : St := St.ofList [(1, (.v (.ptr 36 Ty21) .s (some x.f1))), (58, (.v (.sl 3 (.int .i64)) (.o .s) x.f58)), (59, (.v (.int .i64) .s x.f59)), (60, (.v (.int .i64) .s x.f60))]
def out_ref08_Short_2 : Ex → List (Nat × Bool) | .ret => [(2, false)] | .exit 0 => [(1, false)] | _ => []
noncomputable def fuel_ref08_Short_2 (x : X_ref08_Short_2) : Nat := fuel64
noncomputable def c_ref08_Short_2 : Code := match loopAt 2 (body Tryz.f9.body) with | some c => c | none => .skip
structure X_ref08_Short_9 where
  f1 : It7
  f5 : Int
  f68 : List ((List (Int)) × (List (Int)) × Unit)
  f69 : Int
  f70 : Int

noncomputable def B_ref08_Short_9 {R : Type} (k_exit_2 : It7 → Int → Option R) (rec : X_ref08_Short_9 → Option R) (x : X_ref08_Short_9) : Option R :=
  let v1 := decide (x.f70 < x.f69)
  cond v1
  (cond (inB x.f70 (List.length x.f68))
  (let v2 := List.getD x.f68 x.f70.toNat (([] : List (Int)), (([] : List (Int)), ()))
  let v3 := ((List.length v2.1 : Nat) : Int)
  let v4 := ((List.length v2.2.1 : Nat) : Int)
  p_ref08_more x.f5 v3 fun r5 =>
  p_ref08_more r5 v4 fun r6 =>
  let v7 := IntKind.i64.wrap (x.f70 + (1 : Int))
  rec ⟨x.f1, r6, x.f68, x.f69, v7⟩) none)
  (k_exit_2 x.f1 x.f5)
noncomputable def S_ref08_Short_9 (x : X_ref08_Short_9) : St := St.ofList [(1, (.v (.ptr 36 Ty21) .s (some x.f1))), (5, (.v (.int .i64) .s x.f5)), (68, (.v Ty8 .s x.f68)), (69, (.v (.int .i64) .s x.f69)), (70, (.v (.int .i64) .s x.f70))]
def out_ref08_Short_9 : Ex → List (Nat × Bool) | .exit 2 => [(1, false), (5, false)] | _ => []
noncomputable def fuel_ref08_Short_9 (x : X_ref08_Short_9) : Nat := fuel64
noncomputable def c_ref08_Short_9 : Code := match loopAt 9 (body Tryz.f9.body) with | some c => c | none => .skip
structure X_ref08_Short_14 where
  f1 : It7
  f5 : Int
  f85 : List ((List UInt8) × It0)
  f86 : Int
  f87 : Int

noncomputable def B_ref08_Short_14 {R : Type} (k_exit_4 : It7 → Int → Option R) (rec : X_ref08_Short_14 → Option R) (x : X_ref08_Short_14) : Option R :=
  let v1 := decide (x.f87 < x.f86)
  cond v1
  (cond (inB x.f87 (List.length x.f85))
  (let v2 := List.getD x.f85 x.f87.toNat (([] : List UInt8), (([] : List UInt8), ((0 : Int), ((0 : Int), (((0 : Int), (false, ((0 : Int), ()))), (false, ()))))))
  let v3 := ((List.length v2.1 : Nat) : Int)
  let v4 := ((List.length v2.2.1 : Nat) : Int)
  p_ref08_more x.f5 v3 fun r5 =>
  p_ref08_more r5 v4 fun r6 =>
  let v7 := IntKind.i64.wrap (x.f87 + (1 : Int))
  rec ⟨x.f1, r6, x.f85, x.f86, v7⟩) none)
  (k_exit_4 x.f1 x.f5)
noncomputable def S_ref08_Short_14 (x : X_ref08_Short_14) : St := St.ofList [(1, (.v (.ptr 36 Ty21) .s (some x.f1))), (5, (.v (.int .i64) .s x.f5)), (85, (.v Ty10 .s x.f85)), (86, (.v (.int .i64) .s x.f86)), (87, (.v (.int .i64) .s x.f87))]
def out_ref08_Short_14 : Ex → List (Nat × Bool) | .exit 4 => [(1, false), (5, false)] | _ => []
noncomputable def fuel_ref08_Short_14 (x : X_ref08_Short_14) : Nat := fuel64
noncomputable def c_ref08_Short_14 : Code := match loopAt 14 (body Tryz.f9.body) with | some c => c | none => .skip
structure X_ref08_Short_19 where
  f1 : It7
  f5 : Int
  f102 : List ((Int) × It1)
  f103 : Int
  f104 : Int

noncomputable def B_ref08_Short_19 {R : Type} (k_exit_6 : It7 → Int → Option R) (rec : X_ref08_Short_19 → Option R) (x : X_ref08_Short_19) : Option R :=
  let v1 := decide (x.f104 < x.f103)
  cond v1
  (cond (inB x.f104 (List.length x.f102))
  (let v2 := List.getD x.f102 x.f104.toNat ((0 : Int), (([] : List (Int)), (([] : List ((Int) × (Int) × (Int) × (Int) × (List (Int)) × Unit)), ())))
  let v3 := ((List.length v2.2.1 : Nat) : Int)
  p_ref08_more x.f5 v3 fun r4 =>
  p_ref08_bodySize r4 v2.2.2.1 fun r5 =>
  let v6 := IntKind.i64.wrap (x.f104 + (1 : Int))
  rec ⟨x.f1, r5, x.f102, x.f103, v6⟩) none)
  (k_exit_6 x.f1 x.f5)
noncomputable def S_ref08_Short_19 (x : X_ref08_Short_19) : St := St.ofList [(1, (.v (.ptr 36 Ty21) .s (some x.f1))), (5, (.v (.int .i64) .s x.f5)), (102, (.v (.sl 63 (.pair (.int .i64) Ty12)) .s x.f102)), (103, (.v (.int .i64) .s x.f103)), (104, (.v (.int .i64) .s x.f104))]
def out_ref08_Short_19 : Ex → List (Nat × Bool) | .exit 6 => [(1, false), (5, false)] | _ => []
noncomputable def fuel_ref08_Short_19 (x : X_ref08_Short_19) : Nat := fuel64
noncomputable def c_ref08_Short_19 : Code := match loopAt 19 (body Tryz.f9.body) with | some c => c | none => .skip
structure X_ref08_Short_24 where
  f1 : It7
  f5 : Int
  f118 : List ((Int) × It2)
  f119 : Int
  f120 : Int

noncomputable def B_ref08_Short_24 {R : Type} (k_exit_8 : It7 → Int → Option R) (rec : X_ref08_Short_24 → Option R) (x : X_ref08_Short_24) : Option R :=
  let v1 := decide (x.f120 < x.f119)
  cond v1
  (cond (inB x.f120 (List.length x.f118))
  (let v2 := List.getD x.f118 x.f120.toNat ((0 : Int), (false, (([] : List ((Int) × (Int) × (Int) × (Int) × (List (Int)) × Unit)), ())))
  p_ref08_bodySize x.f5 v2.2.2.1 fun r3 =>
  let v4 := IntKind.i64.wrap (x.f120 + (1 : Int))
  rec ⟨x.f1, r3, x.f118, x.f119, v4⟩) none)
  (k_exit_8 x.f1 x.f5)
noncomputable def S_ref08_Short_24 (x : X_ref08_Short_24) : St := St.ofList [(1, (.v (.ptr 36 Ty21) .s (some x.f1))), (5, (.v (.int .i64) .s x.f5)), (118, (.v (.sl 66 (.pair (.int .i64) Ty13)) .s x.f118)), (119, (.v (.int .i64) .s x.f119)), (120, (.v (.int .i64) .s x.f120))]
def out_ref08_Short_24 : Ex → List (Nat × Bool) | .exit 8 => [(1, false), (5, false)] | _ => []
noncomputable def fuel_ref08_Short_24 (x : X_ref08_Short_24) : Nat := fuel64
noncomputable def c_ref08_Short_24 : Code := match loopAt 24 (body Tryz.f9.body) with | some c => c | none => .skip
structure X_ref08_Short_29 where
  f1 : It7
  f5 : Int
  f130 : List ((List UInt8) × (Int) × (Int) × Unit)
  f131 : Int
  f132 : Int

noncomputable def B_ref08_Short_29 {R : Type} (k_exit_10 : It7 → Int → Option R) (rec : X_ref08_Short_29 → Option R) (x : X_ref08_Short_29) : Option R :=
  let v1 := decide (x.f132 < x.f131)
  cond v1
  (cond (inB x.f132 (List.length x.f130))
  (let v2 := List.getD x.f130 x.f132.toNat (([] : List UInt8), ((0 : Int), ((0 : Int), ())))
  let v3 := ((List.length v2.1 : Nat) : Int)
  p_ref08_more x.f5 v3 fun r4 =>
  let v5 := IntKind.i64.wrap (x.f132 + (1 : Int))
  rec ⟨x.f1, r4, x.f130, x.f131, v5⟩) none)
  (k_exit_10 x.f1 x.f5)
noncomputable def S_ref08_Short_29 (x : X_ref08_Short_29) : St := St.ofList [(1, (.v (.ptr 36 Ty21) .s (some x.f1))), (5, (.v (.int .i64) .s x.f5)), (130, (.v (.sl 68 (.pair .str (.pair (.int .i64) (.pair (.int .i64) .unit)))) .s x.f130)), (131, (.v (.int .i64) .s x.f131)), (132, (.v (.int .i64) .s x.f132))]
def out_ref08_Short_29 : Ex → List (Nat × Bool) | .exit 10 => [(1, false), (5, false)] | _ => []
noncomputable def fuel_ref08_Short_29 (x : X_ref08_Short_29) : Nat := fuel64
noncomputable def c_ref08_Short_29 : Code := match loopAt 29 (body Tryz.f9.body) with | some c => c | none => .skip
structure X_ref08_Short_34 where
  f1 : It7
  f5 : Int
  f143 : List ((Int) × It3)
  f144 : Int
  f145 : Int

noncomputable def B_ref08_Short_34 {R : Type} (k_exit_12 : It7 → Int → Option R) (rec : X_ref08_Short_34 → Option R) (x : X_ref08_Short_34) : Option R :=
  let v1 := decide (x.f145 < x.f144)
  cond v1
  (cond (inB x.f145 (List.length x.f143))
  (let v2 := List.getD x.f143 x.f145.toNat ((0 : Int), (([] : List ((Int) × (Int) × (Int) × (Int) × (List (Int)) × Unit)), (([] : List (Int)), ())))
  let v3 := ((List.length v2.2.2.1 : Nat) : Int)
  p_ref08_more x.f5 v3 fun r4 =>
  p_ref08_bodySize r4 v2.2.1 fun r5 =>
  let v6 := IntKind.i64.wrap (x.f145 + (1 : Int))
  rec ⟨x.f1, r5, x.f143, x.f144, v6⟩) none)
  (k_exit_12 x.f1 x.f5)
noncomputable def S_ref08_Short_34 (x : X_ref08_Short_34) : St := St.ofList [(1, (.v (.ptr 36 Ty21) .s (some x.f1))), (5, (.v (.int .i64) .s x.f5)), (143, (.v (.sl 70 (.pair (.int .i64) Ty14)) .s x.f143)), (144, (.v (.int .i64) .s x.f144)), (145, (.v (.int .i64) .s x.f145))]
def out_ref08_Short_34 : Ex → List (Nat × Bool) | .exit 12 => [(1, false), (5, false)] | _ => []
noncomputable def fuel_ref08_Short_34 (x : X_ref08_Short_34) : Nat := fuel64
noncomputable def c_ref08_Short_34 : Code := match loopAt 34 (body Tryz.f9.body) with | some c => c | none => .skip
structure X_ref08_Short_39 where
  f1 : It7
  f5 : Int
  f159 : List ((Int) × It3)
  f160 : Int
  f161 : Int

noncomputable def B_ref08_Short_39 {R : Type} (k_exit_14 : It7 → Int → Option R) (rec : X_ref08_Short_39 → Option R) (x : X_ref08_Short_39) : Option R :=
  let v1 := decide (x.f161 < x.f160)
  cond v1
  (cond (inB x.f161 (List.length x.f159))
  (let v2 := List.getD x.f159 x.f161.toNat ((0 : Int), (([] : List ((Int) × (Int) × (Int) × (Int) × (List (Int)) × Unit)), (([] : List (Int)), ())))
  let v3 := ((List.length v2.2.2.1 : Nat) : Int)
  p_ref08_more x.f5 v3 fun r4 =>
  p_ref08_bodySize r4 v2.2.1 fun r5 =>
  let v6 := IntKind.i64.wrap (x.f161 + (1 : Int))
  rec ⟨x.f1, r5, x.f159, x.f160, v6⟩) none)
  (k_exit_14 x.f1 x.f5)
noncomputable def S_ref08_Short_39 (x : X_ref08_Short_39) : St := St.ofList [(1, (.v (.ptr 36 Ty21) .s (some x.f1))), (5, (.v (.int .i64) .s x.f5)), (159, (.v (.sl 72 (.pair (.int .i64) Ty15)) .s x.f159)), (160, (.v (.int .i64) .s x.f160)), (161, (.v (.int .i64) .s x.f161))]
def out_ref08_Short_39 : Ex → List (Nat × Bool) | .exit 14 => [(1, false), (5, false)] | _ => []
noncomputable def fuel_ref08_Short_39 (x : X_ref08_Short_39) : Nat := fuel64
noncomputable def c_ref08_Short_39 : Code := match loopAt 39 (body Tryz.f9.body) with | some c => c | none => .skip
structure X_ref08_Short_44 where
  f5 : Int
  f175 : List ((List UInt8) × (List (Int)) × Unit)
  f176 : Int
  f177 : Int

noncomputable def B_ref08_Short_44 {R : Type} (k_exit_16 : Int → Option R) (rec : X_ref08_Short_44 → Option R) (x : X_ref08_Short_44) : Option R :=
  let v1 := decide (x.f177 < x.f176)
  cond v1
  (cond (inB x.f177 (List.length x.f175))
  (let v2 := List.getD x.f175 x.f177.toNat (([] : List UInt8), (([] : List (Int)), ()))
  let v3 := ((List.length v2.1 : Nat) : Int)
  let v4 := ((List.length v2.2.1 : Nat) : Int)
  p_ref08_more x.f5 v3 fun r5 =>
  p_ref08_more r5 v4 fun r6 =>
  let v7 := IntKind.i64.wrap (x.f177 + (1 : Int))
  rec ⟨r6, x.f175, x.f176, v7⟩) none)
  (k_exit_16 x.f5)
noncomputable def S_ref08_Short_44 (x : X_ref08_Short_44) : St := St.ofList [(5, (.v (.int .i64) .s x.f5)), (175, (.v (.sl 74 (.pair .str (.pair (.sl 5 (.int .u8)) .unit))) .s x.f175)), (176, (.v (.int .i64) .s x.f176)), (177, (.v (.int .i64) .s x.f177))]
def out_ref08_Short_44 : Ex → List (Nat × Bool) | .exit 16 => [(5, false)] | _ => []
noncomputable def fuel_ref08_Short_44 (x : X_ref08_Short_44) : Nat := fuel64
noncomputable def c_ref08_Short_44 : Code := match loopAt 44 (body Tryz.f9.body) with | some c => c | none => .skip
noncomputable def lp_ref08_Short : Loops := fun z i R st K => match z, i with
  | false, 2 => coerce [(1, false), (58, false), (59, false), (60, false)] st (fun st => mP 36 Ty21 .s (st 1) fun y1 => mV (.sl 3 (.int .i64)) (.o .s) (st 58) fun y58 => mV (.int .i64) .s (st 59) fun y59 => mV (.int .i64) .s (st 60) fun y60 => loopN (B_ref08_Short_2 (fun e2 => K .ret (St.ofList [(2, (.v .bool .s e2))])) (fun e1 => K (.exit 0) (St.ofList [(1, (.v (.ptr 36 Ty21) .s (some e1)))]))) (fuel_ref08_Short_2 ⟨y1, y58, y59, y60⟩) ⟨y1, y58, y59, y60⟩)
  | false, 9 => coerce [(1, false), (5, false), (68, false), (69, false), (70, false)] st (fun st => mP 36 Ty21 .s (st 1) fun y1 => mV (.int .i64) .s (st 5) fun y5 => mV Ty8 .s (st 68) fun y68 => mV (.int .i64) .s (st 69) fun y69 => mV (.int .i64) .s (st 70) fun y70 => loopN (B_ref08_Short_9 (fun e1 e5 => K (.exit 2) (St.ofList [(1, (.v (.ptr 36 Ty21) .s (some e1))), (5, (.v (.int .i64) .s e5))]))) (fuel_ref08_Short_9 ⟨y1, y5, y68, y69, y70⟩) ⟨y1, y5, y68, y69, y70⟩)
  | false, 14 => coerce [(1, false), (5, false), (85, false), (86, false), (87, false)] st (fun st => mP 36 Ty21 .s (st 1) fun y1 => mV (.int .i64) .s (st 5) fun y5 => mV Ty10 .s (st 85) fun y85 => mV (.int .i64) .s (st 86) fun y86 => mV (.int .i64) .s (st 87) fun y87 => loopN (B_ref08_Short_14 (fun e1 e5 => K (.exit 4) (St.ofList [(1, (.v (.ptr 36 Ty21) .s (some e1))), (5, (.v (.int .i64) .s e5))]))) (fuel_ref08_Short_14 ⟨y1, y5, y85, y86, y87⟩) ⟨y1, y5, y85, y86, y87⟩)
  | false, 19 => coerce [(1, false), (5, false), (102, false), (103, false), (104, false)] st (fun st => mP 36 Ty21 .s (st 1) fun y1 => mV (.int .i64) .s (st 5) fun y5 => mV (.sl 63 (.pair (.int .i64) Ty12)) .s (st 102) fun y102 => mV (.int .i64) .s (st 103) fun y103 => mV (.int .i64) .s (st 104) fun y104 => loopN (B_ref08_Short_19 (fun e1 e5 => K (.exit 6) (St.ofList [(1, (.v (.ptr 36 Ty21) .s (some e1))), (5, (.v (.int .i64) .s e5))]))) (fuel_ref08_Short_19 ⟨y1, y5, y102, y103, y104⟩) ⟨y1, y5, y102, y103, y104⟩)
  | false, 24 => coerce [(1, false), (5, false), (118, false), (119, false), (120, false)] st (fun st => mP 36 Ty21 .s (st 1) fun y1 => mV (.int .i64) .s (st 5) fun y5 => mV (.sl 66 (.pair (.int .i64) Ty13)) .s (st 118) fun y118 => mV (.int .i64) .s (st 119) fun y119 => mV (.int .i64) .s (st 120) fun y120 => loopN (B_ref08_Short_24 (fun e1 e5 => K (.exit 8) (St.ofList [(1, (.v (.ptr 36 Ty21) .s (some e1))), (5, (.v (.int .i64) .s e5))]))) (fuel_ref08_Short_24 ⟨y1, y5, y118, y119, y120⟩) ⟨y1, y5, y118, y119, y120⟩)
  | false, 29 => coerce [(1, false), (5, false), (130, false), (131, false), (132, false)] st (fun st => mP 36 Ty21 .s (st 1) fun y1 => mV (.int .i64) .s (st 5) fun y5 => mV (.sl 68 (.pair .str (.pair (.int .i64) (.pair (.int .i64) .unit)))) .s (st 130) fun y130 => mV (.int .i64) .s (st 131) fun y131 => mV (.int .i64) .s (st 132) fun y132 => loopN (B_ref08_Short_29 (fun e1 e5 => K (.exit 10) (St.ofList [(1, (.v (.ptr 36 Ty21) .s (some e1))), (5, (.v (.int .i64) .s e5))]))) (fuel_ref08_Short_29 ⟨y1, y5, y130, y131, y132⟩) ⟨y1, y5, y130, y131, y132⟩)
  | false, 34 => coerce [(1, false), (5, false), (143, false), (144, false), (145, false)] st (fun st => mP 36 Ty21 .s (st 1) fun y1 => mV (.int .i64) .s (st 5) fun y5 => mV (.sl 70 (.pair (.int .i64) Ty14)) .s (st 143) fun y143 => mV (.int .i64) .s (st 144) fun y144 => mV (.int .i64) .s (st 145) fun y145 => loopN (B_ref08_Short_34 (fun e1 e5 => K (.exit 12) (St.ofList [(1, (.v (.ptr 36 Ty21) .s (some e1))), (5, (.v (.int .i64) .s e5))]))) (fuel_ref08_Short_34 ⟨y1, y5, y143, y144, y145⟩) ⟨y1, y5, y143, y144, y145⟩)
  | false, 39 => coerce [(1, false), (5, false), (159, false), (160, false), (161, false)] st (fun st => mP 36 Ty21 .s (st 1) fun y1 => mV (.int .i64) .s (st 5) fun y5 => mV (.sl 72 (.pair (.int .i64) Ty15)) .s (st 159) fun y159 => mV (.int .i64) .s (st 160) fun y160 => mV (.int .i64) .s (st 161) fun y161 => loopN (B_ref08_Short_39 (fun e1 e5 => K (.exit 14) (St.ofList [(1, (.v (.ptr 36 Ty21) .s (some e1))), (5, (.v (.int .i64) .s e5))]))) (fuel_ref08_Short_39 ⟨y1, y5, y159, y160, y161⟩) ⟨y1, y5, y159, y160, y161⟩)
  | false, 44 => coerce [(5, false), (175, false), (176, false), (177, false)] st (fun st => mV (.int .i64) .s (st 5) fun y5 => mV (.sl 74 (.pair .str (.pair (.sl 5 (.int .u8)) .unit))) .s (st 175) fun y175 => mV (.int .i64) .s (st 176) fun y176 => mV (.int .i64) .s (st 177) fun y177 => loopN (B_ref08_Short_44 (fun e5 => K (.exit 16) (St.ofList [(5, (.v (.int .i64) .s e5))]))) (fuel_ref08_Short_44 ⟨y5, y175, y176, y177⟩) ⟨y5, y175, y176, y177⟩)
  | _, _ => none
theorem step_ref08_Short_2 (R : Type) (K : Ex → St → Option R) (rec : St → Option R) (x : X_ref08_Short_2) : evC env_ref08_Short lp_ref08_Short inl0 c_ref08_Short_2 (S_ref08_Short_2 x) (fun e st => match e with | .normal => coerce [(1, false), (58, false), (59, false), (60, false)] st rec | e => coerce (out_ref08_Short_2 e) st (K e)) = B_ref08_Short_2 (fun e2 => K .ret (St.ofList [(2, (.v .bool .s e2))])) (fun e1 => K (.exit 0) (St.ofList [(1, (.v (.ptr 36 Ty21) .s (some e1)))])) (fun x => rec (S_ref08_Short_2 x)) x := by kernel_rfl
theorem ok_ref08_Short_2 : LoopOk env_ref08_Short lp_ref08_Short inl0 c_ref08_Short_2 := by
  refine loopOk_of (hd := [(1, false), (58, false), (59, false), (60, false)]) (out := out_ref08_Short_2) (S := S_ref08_Short_2) (fun _ K => B_ref08_Short_2 (fun e2 => K .ret (St.ofList [(2, (.v .bool .s e2))])) (fun e1 => K (.exit 0) (St.ofList [(1, (.v (.ptr 36 Ty21) .s (some e1)))]))) fuel_ref08_Short_2 2 step_ref08_Short_2 (by kernel_rfl) (fun R K => fun st => mP 36 Ty21 .s (st 1) fun y1 => mV (.sl 3 (.int .i64)) (.o .s) (st 58) fun y58 => mV (.int .i64) .s (st 59) fun y59 => mV (.int .i64) .s (st 60) fun y60 => loopN (B_ref08_Short_2 (fun e2 => K .ret (St.ofList [(2, (.v .bool .s e2))])) (fun e1 => K (.exit 0) (St.ofList [(1, (.v (.ptr 36 Ty21) .s (some e1)))]))) (fuel_ref08_Short_2 ⟨y1, y58, y59, y60⟩) ⟨y1, y58, y59, y60⟩) (fun R st K => by kernel_rfl) ?_
  intro R K st r h
  obtain ⟨y1, hy1, h⟩ := mP_inv h
  obtain ⟨y58, hy58, h⟩ := mV_inv h
  obtain ⟨y59, hy59, h⟩ := mV_inv h
  obtain ⟨y60, hy60, h⟩ := mV_inv h
  exact ⟨⟨y1, y58, y59, y60⟩, only_of_list (ofList_cons hy1 (ofList_cons hy58 (ofList_cons hy59 (ofList_cons hy60 rfl)))), h⟩
theorem step_ref08_Short_9 (R : Type) (K : Ex → St → Option R) (rec : St → Option R) (x : X_ref08_Short_9) : evC env_ref08_Short lp_ref08_Short inl0 c_ref08_Short_9 (S_ref08_Short_9 x) (fun e st => match e with | .normal => coerce [(1, false), (5, false), (68, false), (69, false), (70, false)] st rec | e => coerce (out_ref08_Short_9 e) st (K e)) = B_ref08_Short_9 (fun e1 e5 => K (.exit 2) (St.ofList [(1, (.v (.ptr 36 Ty21) .s (some e1))), (5, (.v (.int .i64) .s e5))])) (fun x => rec (S_ref08_Short_9 x)) x := by kernel_rfl
theorem ok_ref08_Short_9 : LoopOk env_ref08_Short lp_ref08_Short inl0 c_ref08_Short_9 := by
  refine loopOk_of (hd := [(1, false), (5, false), (68, false), (69, false), (70, false)]) (out := out_ref08_Short_9) (S := S_ref08_Short_9) (fun _ K => B_ref08_Short_9 (fun e1 e5 => K (.exit 2) (St.ofList [(1, (.v (.ptr 36 Ty21) .s (some e1))), (5, (.v (.int .i64) .s e5))]))) fuel_ref08_Short_9 9 step_ref08_Short_9 (by kernel_rfl) (fun R K => fun st => mP 36 Ty21 .s (st 1) fun y1 => mV (.int .i64) .s (st 5) fun y5 => mV Ty8 .s (st 68) fun y68 => mV (.int .i64) .s (st 69) fun y69 => mV (.int .i64) .s (st 70) fun y70 => loopN (B_ref08_Short_9 (fun e1 e5 => K (.exit 2) (St.ofList [(1, (.v (.ptr 36 Ty21) .s (some e1))), (5, (.v (.int .i64) .s e5))]))) (fuel_ref08_Short_9 ⟨y1, y5, y68, y69, y70⟩) ⟨y1, y5, y68, y69, y70⟩) (fun R st K => by kernel_rfl) ?_
  intro R K st r h
  obtain ⟨y1, hy1, h⟩ := mP_inv h
  obtain ⟨y5, hy5, h⟩ := mV_inv h
  obtain ⟨y68, hy68, h⟩ := mV_inv h
  obtain ⟨y69, hy69, h⟩ := mV_inv h
  obtain ⟨y70, hy70, h⟩ := mV_inv h
  exact ⟨⟨y1, y5, y68, y69, y70⟩, only_of_list (ofList_cons hy1 (ofList_cons hy5 (ofList_cons hy68 (ofList_cons hy69 (ofList_cons hy70 rfl))))), h⟩
theorem step_ref08_Short_14 (R : Type) (K : Ex → St → Option R) (rec : St → Option R) (x : X_ref08_Short_14) : evC env_ref08_Short lp_ref08_Short inl0 c_ref08_Short_14 (S_ref08_Short_14 x) (fun e st => match e with | .normal => coerce [(1, false), (5, false), (85, false), (86, false), (87, false)] st rec | e => coerce (out_ref08_Short_14 e) st (K e)) = B_ref08_Short_14 (fun e1 e5 => K (.exit 4) (St.ofList [(1, (.v (.ptr 36 Ty21) .s (some e1))), (5, (.v (.int .i64) .s e5))])) (fun x => rec (S_ref08_Short_14 x)) x := by kernel_rfl
theorem ok_ref08_Short_14 : LoopOk env_ref08_Short lp_ref08_Short inl0 c_ref08_Short_14 := by
  refine loopOk_of (hd := [(1, false), (5, false), (85, false), (86, false), (87, false)]) (out := out_ref08_Short_14) (S := S_ref08_Short_14) (fun _ K => B_ref08_Short_14 (fun e1 e5 => K (.exit 4) (St.ofList [(1, (.v (.ptr 36 Ty21) .s (some e1))), (5, (.v (.int .i64) .s e5))]))) fuel_ref08_Short_14 14 step_ref08_Short_14 (by kernel_rfl) (fun R K => fun st => mP 36 Ty21 .s (st 1) fun y1 => mV (.int .i64) .s (st 5) fun y5 => mV Ty10 .s (st 85) fun y85 => mV (.int .i64) .s (st 86) fun y86 => mV (.int .i64) .s (st 87) fun y87 => loopN (B_ref08_Short_14 (fun e1 e5 => K (.exit 4) (St.ofList [(1, (.v (.ptr 36 Ty21) .s (some e1))), (5, (.v (.int .i64) .s e5))]))) (fuel_ref08_Short_14 ⟨y1, y5, y85, y86, y87⟩) ⟨y1, y5, y85, y86, y87⟩) (fun R st K => by kernel_rfl) ?_
  intro R K st r h
  obtain ⟨y1, hy1, h⟩ := mP_inv h
  obtain ⟨y5, hy5, h⟩ := mV_inv h
  obtain ⟨y85, hy85, h⟩ := mV_inv h
  obtain ⟨y86, hy86, h⟩ := mV_inv h
  obtain ⟨y87, hy87, h⟩ := mV_inv h
  exact ⟨⟨y1, y5, y85, y86, y87⟩, only_of_list (ofList_cons hy1 (ofList_cons hy5 (ofList_cons hy85 (ofList_cons hy86 (ofList_cons hy87 rfl))))), h⟩
theorem step_ref08_Short_19 (R : Type) (K : Ex → St → Option R) (rec : St → Option R) (x : X_ref08_Short_19) : evC env_ref08_Short lp_ref08_Short inl0 c_ref08_Short_19 (S_ref08_Short_19 x) (fun e st => match e with | .normal => coerce [(1, false), (5, false), (102, false), (103, false), (104, false)] st rec | e => coerce (out_ref08_Short_19 e) st (K e)) = B_ref08_Short_19 (fun e1 e5 => K (.exit 6) (St.ofList [(1, (.v (.ptr 36 Ty21) .s (some e1))), (5, (.v (.int .i64) .s e5))])) (fun x => rec (S_ref08_Short_19 x)) x := by kernel_rfl
theorem ok_ref08_Short_19 : LoopOk env_ref08_Short lp_ref08_Short inl0 c_ref08_Short_19 := by
  refine loopOk_of (hd := [(1, false), (5, false), (102, false), (103, false), (104, false)]) (out := out_ref08_Short_19) (S := S_ref08_Short_19) (fun _ K => B_ref08_Short_19 (fun e1 e5 => K (.exit 6) (St.ofList [(1, (.v (.ptr 36 Ty21) .s (some e1))), (5, (.v (.int .i64) .s e5))]))) fuel_ref08_Short_19 19 step_ref08_Short_19 (by kernel_rfl) (fun R K => fun st => mP 36 Ty21 .s (st 1) fun y1 => mV (.int .i64) .s (st 5) fun y5 => mV (.sl 63 (.pair (.int .i64) Ty12)) .s (st 102) fun y102 => mV (.int .i64) .s (st 103) fun y103 => mV (.int .i64) .s (st 104) fun y104 => loopN (B_ref08_Short_19 (fun e1 e5 => K (.exit 6) (St.ofList [(1, (.v (.ptr 36 Ty21) .s (some e1))), (5, (.v (.int .i64) .s e5))]))) (fuel_ref08_Short_19 ⟨y1, y5, y102, y103, y104⟩) ⟨y1, y5, y102, y103, y104⟩) (fun R st K => by kernel_rfl) ?_
  intro R K st r h
  obtain ⟨y1, hy1, h⟩ := mP_inv h
  obtain ⟨y5, hy5, h⟩ := mV_inv h
  obtain ⟨y102, hy102, h⟩ := mV_inv h
  obtain ⟨y103, hy103, h⟩ := mV_inv h
  obtain ⟨y104, hy104, h⟩ := mV_inv h
  exact ⟨⟨y1, y5, y102, y103, y104⟩, only_of_list (ofList_cons hy1 (ofList_cons hy5 (ofList_cons hy102 (ofList_cons hy103 (ofList_cons hy104 rfl))))), h⟩
theorem step_ref08_Short_24 (R : Type) (K : Ex → St → Option R) (rec : St → Option R) (x : X_ref08_Short_24) : evC env_ref08_Short lp_ref08_Short inl0 c_ref08_Short_24 (S_ref08_Short_24 x) (fun e st => match e with | .normal => coerce [(1, false), (5, false), (118, false), (119, false), (120, false)] st rec | e => coerce (out_ref08_Short_24 e) st (K e)) = B_ref08_Short_24 (fun e1 e5 => K (.exit 8) (St.ofList [(1, (.v (.ptr 36 Ty21) .s (some e1))), (5, (.v (.int .i64) .s e5))])) (fun x => rec (S_ref08_Short_24 x)) x := by kernel_rfl
theorem ok_ref08_Short_24 : LoopOk env_ref08_Short lp_ref08_Short inl0 c_ref08_Short_24 := by
  refine loopOk_of (hd := [(1, false), (5, false), (118, false), (119, false), (120, false)]) (out := out_ref08_Short_24) (S := S_ref08_Short_24) (fun _ K => B_ref08_Short_24 (fun e1 e5 => K (.exit 8) (St.ofList [(1, (.v (.ptr 36 Ty21) .s (some e1))), (5, (.v (.int .i64) .s e5))]))) fuel_ref08_Short_24 24 step_ref08_Short_24 (by kernel_rfl) (fun R K => fun st => mP 36 Ty21 .s (st 1) fun y1 => mV (.int .i64) .s (st 5) fun y5 => mV (.sl 66 (.pair (.int .i64) Ty13)) .s (st 118) fun y118 => mV (.int .i64) .s (st 119) fun y119 => mV (.int .i64) .s (st 120) fun y120 => loopN (B_ref08_Short_24 (fun e1 e5 => K (.exit 8) (St.ofList [(1, (.v (.ptr 36 Ty21) .s (some e1))), (5, (.v (.int .i64) .s e5))]))) (fuel_ref08_Short_24 ⟨y1, y5, y118, y119, y120⟩) ⟨y1, y5, y118, y119, y120⟩) (fun R st K => by kernel_rfl) ?_
  intro R K st r h
  obtain ⟨y1, hy1, h⟩ := mP_inv h
  obtain ⟨y5, hy5, h⟩ := mV_inv h
  obtain ⟨y118, hy118, h⟩ := mV_inv h
  obtain ⟨y119, hy119, h⟩ := mV_inv h
  obtain ⟨y120, hy120, h⟩ := mV_inv h
  exact ⟨⟨y1, y5, y118, y119, y120⟩, only_of_list (ofList_cons hy1 (ofList_cons hy5 (ofList_cons hy118 (ofList_cons hy119 (ofList_cons hy120 rfl))))), h⟩
theorem step_ref08_Short_29 (R : Type) (K : Ex → St → Option R) (rec : St → Option R) (x : X_ref08_Short_29) : evC env_ref08_Short lp_ref08_Short inl0 c_ref08_Short_29 (S_ref08_Short_29 x) (fun e st => match e with | .normal => coerce [(1, false), (5, false), (130, false), (131, false), (132, false)] st rec | e => coerce (out_ref08_Short_29 e) st (K e)) = B_ref08_Short_29 (fun e1 e5 => K (.exit 10) (St.ofList [(1, (.v (.ptr 36 Ty21) .s (some e1))), (5, (.v (.int .i64) .s e5))])) (fun x => rec (S_ref08_Short_29 x)) x := by kernel_rfl
theorem ok_ref08_Short_29 : LoopOk env_ref08_Short lp_ref08_Short inl0 c_ref08_Short_29 := by
  refine loopOk_of (hd := [(1, false), (5, false), (130, false), (131, false), (132, false)]) (out := out_ref08_Short_29) (S := S_ref08_Short_29) (fun _ K => B_ref08_Short_29 (fun e1 e5 => K (.exit 10) (St.ofList [(1, (.v (.ptr 36 Ty21) .s (some e1))), (5, (.v (.int .i64) .s e5))]))) fuel_ref08_Short_29 29 step_ref08_Short_29 (by kernel_rfl) (fun R K => fun st => mP 36 Ty21 .s (st 1) fun y1 => mV (.int .i64) .s (st 5) fun y5 => mV (.sl 68 (.pair .str (.pair (.int .i64) (.pair (.int .i64) .unit)))) .s (st 130) fun y130 => mV (.int .i64) .s (st 131) fun y131 => mV (.int .i64) .s (st 132) fun y132 => loopN (B_ref08_Short_29 (fun e1 e5 => K (.exit 10) (St.ofList [(1, (.v (.ptr 36 Ty21) .s (some e1))), (5, (.v (.int .i64) .s e5))]))) (fuel_ref08_Short_29 ⟨y1, y5, y130, y131, y132⟩) ⟨y1, y5, y130, y131, y132⟩) (fun R st K => by kernel_rfl) ?_
  intro R K st r h
  obtain ⟨y1, hy1, h⟩ := mP_inv h
  obtain ⟨y5, hy5, h⟩ := mV_inv h
  obtain ⟨y130, hy130, h⟩ := mV_inv h
  obtain ⟨y131, hy131, h⟩ := mV_inv h
  obtain ⟨y132, hy132, h⟩ := mV_inv h
  exact ⟨⟨y1, y5, y130, y131, y132⟩, only_of_list (ofList_cons hy1 (ofList_cons hy5 (ofList_cons hy130 (ofList_cons hy131 (ofList_cons hy132 rfl))))), h⟩
theorem step_ref08_Short_34 (R : Type) (K : Ex → St → Option R) (rec : St → Option R) (x : X_ref08_Short_34) : evC env_ref08_Short lp_ref08_Short inl0 c_ref08_Short_34 (S_ref08_Short_34 x) (fun e st => match e with | .normal => coerce [(1, false), (5, false), (143, false), (144, false), (145, false)] st rec | e => coerce (out_ref08_Short_34 e) st (K e)) = B_ref08_Short_34 (fun e1 e5 => K (.exit 12) (St.ofList [(1, (.v (.ptr 36 Ty21) .s (some e1))), (5, (.v (.int .i64) .s e5))])) (fun x => rec (S_ref08_Short_34 x)) x := by kernel_rfl
theorem ok_ref08_Short_34 : LoopOk env_ref08_Short lp_ref08_Short inl0 c_ref08_Short_34 := by
  refine loopOk_of (hd := [(1, false), (5, false), (143, false), (144, false), (145, false)]) (out := out_ref08_Short_34) (S := S_ref08_Short_34) (fun _ K => B_ref08_Short_34 (fun e1 e5 => K (.exit 12) (St.ofList [(1, (.v (.ptr 36 Ty21) .s (some e1))), (5, (.v (.int .i64) .s e5))]))) fuel_ref08_Short_34 34 step_ref08_Short_34 (by kernel_rfl) (fun R K => fun st => mP 36 Ty21 .s (st 1) fun y1 => mV (.int .i64) .s (st 5) fun y5 => mV (.sl 70 (.pair (.int .i64) Ty14)) .s (st 143) fun y143 => mV (.int .i64) .s (st 144) fun y144 => mV (.int .i64) .s (st 145) fun y145 => loopN (B_ref08_Short_34 (fun e1 e5 => K (.exit 12) (St.ofList [(1, (.v (.ptr 36 Ty21) .s (some e1))), (5, (.v (.int .i64) .s e5))]))) (fuel_ref08_Short_34 ⟨y1, y5, y143, y144, y145⟩) ⟨y1, y5, y143, y144, y145⟩) (fun R st K => by kernel_rfl) ?_
  intro R K st r h
  obtain ⟨y1, hy1, h⟩ := mP_inv h
  obtain ⟨y5, hy5, h⟩ := mV_inv h
  obtain ⟨y143, hy143, h⟩ := mV_inv h
  obtain ⟨y144, hy144, h⟩ := mV_inv h
  obtain ⟨y145, hy145, h⟩ := mV_inv h
  exact ⟨⟨y1, y5, y143, y144, y145⟩, only_of_list (ofList_cons hy1 (ofList_cons hy5 (ofList_cons hy143 (ofList_cons hy144 (ofList_cons hy145 rfl))))), h⟩
theorem step_ref08_Short_39 (R : Type) (K : Ex → St → Option R) (rec : St → Option R) (x : X_ref08_Short_39) : evC env_ref08_Short lp_ref08_Short inl0 c_ref08_Short_39 (S_ref08_Short_39 x) (fun e st => match e with | .normal => coerce [(1, false), (5, false), (159, false), (160, false), (161, false)] st rec | e => coerce (out_ref08_Short_39 e) st (K e)) = B_ref08_Short_39 (fun e1 e5 => K (.exit 14) (St.ofList [(1, (.v (.ptr 36 Ty21) .s (some e1))), (5, (.v (.int .i64) .s e5))])) (fun x => rec (S_ref08_Short_39 x)) x := by kernel_rfl
theorem ok_ref08_Short_39 : LoopOk env_ref08_Short lp_ref08_Short inl0 c_ref08_Short_39 := by
  refine loopOk_of (hd := [(1, false), (5, false), (159, false), (160, false), (161, false)]) (out := out_ref08_Short_39) (S := S_ref08_Short_39) (fun _ K => B_ref08_Short_39 (fun e1 e5 => K (.exit 14) (St.ofList [(1, (.v (.ptr 36 Ty21) .s (some e1))), (5, (.v (.int .i64) .s e5))]))) fuel_ref08_Short_39 39 step_ref08_Short_39 (by kernel_rfl) (fun R K => fun st => mP 36 Ty21 .s (st 1) fun y1 => mV (.int .i64) .s (st 5) fun y5 => mV (.sl 72 (.pair (.int .i64) Ty15)) .s (st 159) fun y159 => mV (.int .i64) .s (st 160) fun y160 => mV (.int .i64) .s (st 161) fun y161 => loopN (B_ref08_Short_39 (fun e1 e5 => K (.exit 14) (St.ofList [(1, (.v (.ptr 36 Ty21) .s (some e1))), (5, (.v (.int .i64) .s e5))]))) (fuel_ref08_Short_39 ⟨y1, y5, y159, y160, y161⟩) ⟨y1, y5, y159, y160, y161⟩) (fun R st K => by kernel_rfl) ?_
  intro R K st r h
  obtain ⟨y1, hy1, h⟩ := mP_inv h
  obtain ⟨y5, hy5, h⟩ := mV_inv h
  obtain ⟨y159, hy159, h⟩ := mV_inv h
  obtain ⟨y160, hy160, h⟩ := mV_inv h
  obtain ⟨y161, hy161, h⟩ := mV_inv h
  exact ⟨⟨y1, y5, y159, y160, y161⟩, only_of_list (ofList_cons hy1 (ofList_cons hy5 (ofList_cons hy159 (ofList_cons hy160 (ofList_cons hy161 rfl))))), h⟩
theorem step_ref08_Short_44 (R : Type) (K : Ex → St → Option R) (rec : St → Option R) (x : X_ref08_Short_44) : evC env_ref08_Short lp_ref08_Short inl0 c_ref08_Short_44 (S_ref08_Short_44 x) (fun e st => match e with | .normal => coerce [(5, false), (175, false), (176, false), (177, false)] st rec | e => coerce (out_ref08_Short_44 e) st (K e)) = B_ref08_Short_44 (fun e5 => K (.exit 16) (St.ofList [(5, (.v (.int .i64) .s e5))])) (fun x => rec (S_ref08_Short_44 x)) x := by kernel_rfl
theorem ok_ref08_Short_44 : LoopOk env_ref08_Short lp_ref08_Short inl0 c_ref08_Short_44 := by
  refine loopOk_of (hd := [(5, false), (175, false), (176, false), (177, false)]) (out := out_ref08_Short_44) (S := S_ref08_Short_44) (fun _ K => B_ref08_Short_44 (fun e5 => K (.exit 16) (St.ofList [(5, (.v (.int .i64) .s e5))]))) fuel_ref08_Short_44 44 step_ref08_Short_44 (by kernel_rfl) (fun R K => fun st => mV (.int .i64) .s (st 5) fun y5 => mV (.sl 74 (.pair .str (.pair (.sl 5 (.int .u8)) .unit))) .s (st 175) fun y175 => mV (.int .i64) .s (st 176) fun y176 => mV (.int .i64) .s (st 177) fun y177 => loopN (B_ref08_Short_44 (fun e5 => K (.exit 16) (St.ofList [(5, (.v (.int .i64) .s e5))]))) (fuel_ref08_Short_44 ⟨y5, y175, y176, y177⟩) ⟨y5, y175, y176, y177⟩) (fun R st K => by kernel_rfl) ?_
  intro R K st r h
  obtain ⟨y5, hy5, h⟩ := mV_inv h
  obtain ⟨y175, hy175, h⟩ := mV_inv h
  obtain ⟨y176, hy176, h⟩ := mV_inv h
  obtain ⟨y177, hy177, h⟩ := mV_inv h
  exact ⟨⟨y5, y175, y176, y177⟩, only_of_list (ofList_cons hy5 (ofList_cons hy175 (ofList_cons hy176 (ofList_cons hy177 rfl)))), h⟩
theorem loops_ref08_Short : LoopsOk env_ref08_Short lp_ref08_Short inl0 (body Tryz.f9.body) := by
  refine loopsOk_of (fun c hc => ?_) (fun c hc => ?_)
  · rw [show loopsL (body Tryz.f9.body) = [c_ref08_Short_2, c_ref08_Short_9, c_ref08_Short_14, c_ref08_Short_19, c_ref08_Short_24, c_ref08_Short_29, c_ref08_Short_34, c_ref08_Short_39, c_ref08_Short_44] by kernel_rfl] at hc
    simp only [List.mem_cons, List.not_mem_nil, or_false] at hc
    rcases hc with rfl | rfl | rfl | rfl | rfl | rfl | rfl | rfl | rfl
    · exact ok_ref08_Short_2
    · exact ok_ref08_Short_9
    · exact ok_ref08_Short_14
    · exact ok_ref08_Short_19
    · exact ok_ref08_Short_24
    · exact ok_ref08_Short_29
    · exact ok_ref08_Short_34
    · exact ok_ref08_Short_39
    · exact ok_ref08_Short_44
  · rw [show joinsL env_ref08_Short (body Tryz.f9.body) = [] by kernel_rfl] at hc; cases hc
noncomputable def p_ref08_Short {R : Type} (a0 : It7) (K : Bool → Option R) : Option R :=
  let v1 := ((List.length a0.1 : Nat) : Int)
  let v2 := ((List.length a0.2.1 : Nat) : Int)
  let v3 := ((List.length a0.2.2.1 : Nat) : Int)
  let v4 := ((List.length a0.2.2.2.1 : Nat) : Int)
  let v5 := ((List.length a0.2.2.2.2.1 : Nat) : Int)
  let v6 := ((List.length a0.2.2.2.2.2.1 : Nat) : Int)
  let v7 := ((List.length a0.2.2.2.2.2.2.1 : Nat) : Int)
  let v8 := ((List.length a0.2.2.2.2.2.2.2.1 : Nat) : Int)
  let v9 := ((List.length a0.2.2.2.2.2.2.2.2.1 : Nat) : Int)
  let v10 := ((List.length a0.2.2.2.2.2.2.2.2.2.1 : Nat) : Int)
  let v11 := ((List.length a0.2.2.2.2.2.2.2.2.2.2.1 : Nat) : Int)
  let v12 := ((List.length a0.2.2.2.2.2.2.2.2.2.2.2.1 : Nat) : Int)
  let v13 := List.set (List.set (List.set (List.set (List.set (List.set (List.set (List.set (List.set (List.set (List.set (List.set (List.replicate 12 (0 : Int)) 0 v1) 1 v2) 2 v3) 3 v4) 4 v5) 5 v6) 6 v7) 7 v8) 8 v9) 9 v10) 10 v11) 11 v12
  let v14 := ((List.length v13 : Nat) : Int)
  loopN (B_ref08_Short_2 (fun w15 =>
  K w15) (fun w16 =>
  let v17 := ((List.length w16.1 : Nat) : Int)
  loopN (B_ref08_Short_9 (fun w18 w19 =>
  let v20 := ((List.length w18.2.1 : Nat) : Int)
  loopN (B_ref08_Short_14 (fun w21 w22 =>
  let v23 := ((List.length w21.2.2.1 : Nat) : Int)
  loopN (B_ref08_Short_19 (fun w24 w25 =>
  let v26 := ((List.length w24.2.2.2.2.2.1 : Nat) : Int)
  loopN (B_ref08_Short_24 (fun w27 w28 =>
  let v29 := ((List.length w27.2.2.2.2.2.2.1 : Nat) : Int)
  loopN (B_ref08_Short_29 (fun w30 w31 =>
  let v32 := ((List.length w30.2.2.2.2.2.2.2.2.1 : Nat) : Int)
  loopN (B_ref08_Short_34 (fun w33 w34 =>
  let v35 := ((List.length w33.2.2.2.2.2.2.2.2.2.2.1 : Nat) : Int)
  loopN (B_ref08_Short_39 (fun w36 w37 =>
  let v38 := ((List.length w36.2.2.2.2.2.2.2.2.2.2.2.1 : Nat) : Int)
  loopN (B_ref08_Short_44 (fun w39 =>
  let v40 := decide (w39 ≥ (0 : Int))
  K v40)) (fuel_ref08_Short_44 ⟨w37, w36.2.2.2.2.2.2.2.2.2.2.2.1, v38, (0 : Int)⟩) ⟨w37, w36.2.2.2.2.2.2.2.2.2.2.2.1, v38, (0 : Int)⟩)) (fuel_ref08_Short_39 ⟨w33, w34, w33.2.2.2.2.2.2.2.2.2.2.1, v35, (0 : Int)⟩) ⟨w33, w34, w33.2.2.2.2.2.2.2.2.2.2.1, v35, (0 : Int)⟩)) (fuel_ref08_Short_34 ⟨w30, w31, w30.2.2.2.2.2.2.2.2.1, v32, (0 : Int)⟩) ⟨w30, w31, w30.2.2.2.2.2.2.2.2.1, v32, (0 : Int)⟩)) (fuel_ref08_Short_29 ⟨w27, w28, w27.2.2.2.2.2.2.1, v29, (0 : Int)⟩) ⟨w27, w28, w27.2.2.2.2.2.2.1, v29, (0 : Int)⟩)) (fuel_ref08_Short_24 ⟨w24, w25, w24.2.2.2.2.2.1, v26, (0 : Int)⟩) ⟨w24, w25, w24.2.2.2.2.2.1, v26, (0 : Int)⟩)) (fuel_ref08_Short_19 ⟨w21, w22, w21.2.2.1, v23, (0 : Int)⟩) ⟨w21, w22, w21.2.2.1, v23, (0 : Int)⟩)) (fuel_ref08_Short_14 ⟨w18, w19, w18.2.1, v20, (0 : Int)⟩) ⟨w18, w19, w18.2.1, v20, (0 : Int)⟩)) (fuel_ref08_Short_9 ⟨w16, (0 : Int), w16.1, v17, (0 : Int)⟩) ⟨w16, (0 : Int), w16.1, v17, (0 : Int)⟩)) (fuel_ref08_Short_2 ⟨a0, v13, v14, (0 : Int)⟩) ⟨a0, v13, v14, (0 : Int)⟩
noncomputable def cs_ref08_Short : CSpec := { ins := [(.val Ty21 .s)], outs := [(.bool, .s)], fn := fun (d : It7 × Unit) K _ => p_ref08_Short d.1 (fun r0 => K ((r0, ()) : Bool × Unit) ((()) : Unit)) }
theorem h_ref08_Short : Holds Tryz.prog 9 cs_ref08_Short := by
  refine holds_of (env := env_ref08_Short) (inl := inl0) (fn := Tryz.f9) (code := body Tryz.f9.body) (rs := [(2, none)]) (lp := lp_ref08_Short) mixed ⟨envTyOk.ty, envTyOk.eq⟩ gamOk_ref08_Short inl0_ok Tryz.func9 (by kernel_rfl) (by kernel_rfl) (by kernel_rfl) (by kernel_rfl) (by kernel_rfl) loops_ref08_Short (by kernel_rfl) ?_
  intro d R K Kp res h
  have : evC env_ref08_Short lp_ref08_Short inl0 (body Tryz.f9.body) (St.start cs_ref08_Short.ins d) (retK env_ref08_Short cs_ref08_Short.ins cs_ref08_Short.outs [(2, none)] cs_ref08_Short.pan K Kp) = cs_ref08_Short.fn d K Kp := by kernel_rfl
  rw [this]; exact h
-- f21 slices.Equal[[]int,int]
noncomputable def env_slices_EqualInt : Env := { ty := envTy, eq := envEq, gam := noG, n := Tryz.f21.ntmps }
structure X_slices_EqualInt_4 where
  f0 : List (Int)
  f1 : List (Int)
  f12 : Int
  f13 : Int

noncomputable def B_slices_EqualInt_4 {R : Type} (k_ret : Bool → Option R) (k_exit_0 : Option R) (rec : X_slices_EqualInt_4 → Option R) (x : X_slices_EqualInt_4) : Option R :=
  let v1 := decide (x.f13 < x.f12)
  cond v1
  (cond (inB x.f13 (List.length x.f0))
  (let v2 := List.getD x.f0 x.f13.toNat (0 : Int)
  cond (inB x.f13 (List.length x.f1))
  (let v3 := List.getD x.f1 x.f13.toNat (0 : Int)
  let v4 := v2 != v3
  cond v4
  (k_ret false)
  (let v5 := IntKind.i64.wrap (x.f13 + (1 : Int))
  rec ⟨x.f0, x.f1, x.f12, v5⟩)) none) none)
  (k_exit_0)
noncomputable def S_slices_EqualInt_4 (x : X_slices_EqualInt_4) : St := St.ofList [(0, (.v (.sl 3 (.int .i64)) .s x.f0)), (1, (.v (.sl 3 (.int .i64)) .s x.f1)), (12, (.v (.int .i64) .s x.f12)), (13, (.v (.int .i64) .s x.f13))]
def out_slices_EqualInt_4 : Ex → List (Nat × Bool) | .ret => [(4, false)] | .exit 0 => [] | _ => []
noncomputable def fuel_slices_EqualInt_4 (x : X_slices_EqualInt_4) : Nat := fuel64
noncomputable def c_slices_EqualInt_4 : Code := match loopAt 4 (body Tryz.f21.body) with | some c => c | none => .skip
noncomputable def lp_slices_EqualInt : Loops := fun z i R st K => match z, i with
  | false, 4 => coerce [(0, false), (1, false), (12, false), (13, false)] st (fun st => mV (.sl 3 (.int .i64)) .s (st 0) fun y0 => mV (.sl 3 (.int .i64)) .s (st 1) fun y1 => mV (.int .i64) .s (st 12) fun y12 => mV (.int .i64) .s (st 13) fun y13 => loopN (B_slices_EqualInt_4 (fun e4 => K .ret (St.ofList [(4, (.v .bool .s e4))])) (K (.exit 0) (St.ofList []))) (fuel_slices_EqualInt_4 ⟨y0, y1, y12, y13⟩) ⟨y0, y1, y12, y13⟩)
  | _, _ => none
theorem step_slices_EqualInt_4 (R : Type) (K : Ex → St → Option R) (rec : St → Option R) (x : X_slices_EqualInt_4) : evC env_slices_EqualInt lp_slices_EqualInt inl0 c_slices_EqualInt_4 (S_slices_EqualInt_4 x) (fun e st => match e with | .normal => coerce [(0, false), (1, false), (12, false), (13, false)] st rec | e => coerce (out_slices_EqualInt_4 e) st (K e)) = B_slices_EqualInt_4 (fun e4 => K .ret (St.ofList [(4, (.v .bool .s e4))])) (K (.exit 0) (St.ofList [])) (fun x => rec (S_slices_EqualInt_4 x)) x := by kernel_rfl
theorem ok_slices_EqualInt_4 : LoopOk env_slices_EqualInt lp_slices_EqualInt inl0 c_slices_EqualInt_4 := by
  refine loopOk_of (hd := [(0, false), (1, false), (12, false), (13, false)]) (out := out_slices_EqualInt_4) (S := S_slices_EqualInt_4) (fun _ K => B_slices_EqualInt_4 (fun e4 => K .ret (St.ofList [(4, (.v .bool .s e4))])) (K (.exit 0) (St.ofList []))) fuel_slices_EqualInt_4 4 step_slices_EqualInt_4 (by kernel_rfl) (fun R K => fun st => mV (.sl 3 (.int .i64)) .s (st 0) fun y0 => mV (.sl 3 (.int .i64)) .s (st 1) fun y1 => mV (.int .i64) .s (st 12) fun y12 => mV (.int .i64) .s (st 13) fun y13 => loopN (B_slices_EqualInt_4 (fun e4 => K .ret (St.ofList [(4, (.v .bool .s e4))])) (K (.exit 0) (St.ofList []))) (fuel_slices_EqualInt_4 ⟨y0, y1, y12, y13⟩) ⟨y0, y1, y12, y13⟩) (fun R st K => by kernel_rfl) ?_
  intro R K st r h
  obtain ⟨y0, hy0, h⟩ := mV_inv h
  obtain ⟨y1, hy1, h⟩ := mV_inv h
  obtain ⟨y12, hy12, h⟩ := mV_inv h
  obtain ⟨y13, hy13, h⟩ := mV_inv h
  exact ⟨⟨y0, y1, y12, y13⟩, only_of_list (ofList_cons hy0 (ofList_cons hy1 (ofList_cons hy12 (ofList_cons hy13 rfl)))), h⟩
theorem loops_slices_EqualInt : LoopsOk env_slices_EqualInt lp_slices_EqualInt inl0 (body Tryz.f21.body) := by
  refine loopsOk_of (fun c hc => ?_) (fun c hc => ?_)
  · rw [show loopsL (body Tryz.f21.body) = [c_slices_EqualInt_4] by kernel_rfl] at hc
    simp only [List.mem_cons, List.not_mem_nil, or_false] at hc
    rcases hc with rfl
    · exact ok_slices_EqualInt_4
  · rw [show joinsL env_slices_EqualInt (body Tryz.f21.body) = [] by kernel_rfl] at hc; cases hc
noncomputable def p_slices_EqualInt {R : Type} (a0 : List (Int)) (a1 : List (Int)) (K : Bool → Option R) : Option R :=
  let v1 := ((List.length a0 : Nat) : Int)
  let v2 := ((List.length a1 : Nat) : Int)
  let v3 := v1 != v2
  cond v3
  (K false)
  (let v4 := ((List.length a0 : Nat) : Int)
  loopN (B_slices_EqualInt_4 (fun w5 =>
  K w5) (K true)) (fuel_slices_EqualInt_4 ⟨a0, a1, v4, (0 : Int)⟩) ⟨a0, a1, v4, (0 : Int)⟩)
noncomputable def cs_slices_EqualInt : CSpec := { ins := [(.val (.sl 3 (.int .i64)) .s), (.val (.sl 3 (.int .i64)) .s)], outs := [(.bool, .s)], fn := fun (d : (List (Int)) × (List (Int)) × Unit) K _ => p_slices_EqualInt d.1 d.2.1 (fun r0 => K ((r0, ()) : Bool × Unit) ((()) : Unit)) }
theorem h_slices_EqualInt : Holds Tryz.prog 21 cs_slices_EqualInt := by
  refine holds_of (env := env_slices_EqualInt) (inl := inl0) (fn := Tryz.f21) (code := body Tryz.f21.body) (rs := [(4, none)]) (lp := lp_slices_EqualInt) mixed ⟨envTyOk.ty, envTyOk.eq⟩ (fun _ _ _ h => by cases h) inl0_ok Tryz.func21 (by kernel_rfl) (by kernel_rfl) (by kernel_rfl) (by kernel_rfl) (by kernel_rfl) loops_slices_EqualInt (by kernel_rfl) ?_
  intro d R K Kp res h
  have : evC env_slices_EqualInt lp_slices_EqualInt inl0 (body Tryz.f21.body) (St.start cs_slices_EqualInt.ins d) (retK env_slices_EqualInt cs_slices_EqualInt.ins cs_slices_EqualInt.outs [(4, none)] cs_slices_EqualInt.pan K Kp) = cs_slices_EqualInt.fn d K Kp := by kernel_rfl
  rw [this]; exact h
-- f20 trammel/load.Same$1
noncomputable def gam_load_Same_1 : FuncId → List FuncId → Option CSpec
  | 21, [] => some cs_slices_EqualInt
  | _, _ => none
noncomputable def fz_load_Same_1 : Nat → Bool
  | 2 => true
  | 3 => true
  | _ => false
noncomputable def om_load_Same_1 : TypeId → Md
  | 22 => (.o .s)
  | 25 => (.o (.p (.o .s) (.p (.o .s) .s)))
  | 26 => (.o .s)
  | 27 => (.o (.p .s (.p (.o .s) (.p (.o (.p .s (.p .s (.p .s (.p .s (.p (.o .s) .s)))))) .s))))
  | 28 => (.o .s)
  | 29 => (.o (.p .s (.p .s (.p (.o (.p .s (.p .s (.p .s (.p .s (.p (.o .s) .s)))))) .s))))
  | 30 => (.o .s)
  | 31 => (.o .s)
  | 32 => (.o (.p .s (.p (.o (.p .s (.p .s (.p .s (.p .s (.p (.o .s) .s)))))) (.p (.o .s) .s))))
  | 33 => (.o (.p .s (.p (.o (.p .s (.p .s (.p .s (.p .s (.p (.o .s) .s)))))) (.p (.o .s) .s))))
  | 34 => (.o (.p .s (.p (.o .s) .s)))
  | 35 => (.p (.o (.p (.o .s) (.p (.o .s) .s))) (.p (.o .s) (.p (.o (.p .s (.p (.o .s) (.p (.o (.p .s (.p .s (.p .s (.p .s (.p (.o .s) .s)))))) .s)))) (.p (.o .s) (.p (.o .s) (.p (.o (.p .s (.p .s (.p (.o (.p .s (.p .s (.p .s (.p .s (.p (.o .s) .s)))))) .s)))) (.p (.o .s) (.p (.o .s) (.p (.o (.p .s (.p (.o (.p .s (.p .s (.p .s (.p .s (.p (.o .s) .s)))))) (.p (.o .s) .s)))) (.p (.o .s) (.p (.o (.p .s (.p (.o (.p .s (.p .s (.p .s (.p .s (.p (.o .s) .s)))))) (.p (.o .s) .s)))) (.p (.o (.p .s (.p (.o .s) .s))) .s))))))))))))
  | 36 => (.p (.o (.p (.o .s) (.p (.o .s) .s))) (.p (.o .s) (.p (.o (.p .s (.p (.o .s) (.p (.o (.p .s (.p .s (.p .s (.p .s (.p (.o .s) .s)))))) .s)))) (.p (.o .s) (.p (.o .s) (.p (.o (.p .s (.p .s (.p (.o (.p .s (.p .s (.p .s (.p .s (.p (.o .s) .s)))))) .s)))) (.p (.o .s) (.p (.o .s) (.p (.o (.p .s (.p (.o (.p .s (.p .s (.p .s (.p .s (.p (.o .s) .s)))))) (.p (.o .s) .s)))) (.p (.o .s) (.p (.o (.p .s (.p (.o (.p .s (.p .s (.p .s (.p .s (.p (.o .s) .s)))))) (.p (.o .s) .s)))) (.p (.o (.p .s (.p (.o .s) .s))) .s))))))))))))
  | 37 => (.o .s)
  | 38 => (.p (.o (.p (.o .s) (.p (.o .s) .s))) (.p (.o .s) (.p (.o .s) (.p (.o .s) (.p (.o .s) .s)))))
  | 39 => (.p (.o (.p (.o .s) (.p (.o .s) .s))) (.p (.o .s) (.p (.o .s) (.p (.o .s) (.p (.o .s) .s)))))
  | 54 => (.p (.o .s) (.p (.o .s) .s))
  | 55 => (.p (.o .s) (.p (.o .s) .s))
  | 61 => (.o (.p .s (.p .s (.p .s (.p .s (.p (.o .s) .s))))))
  | 62 => (.p .s (.p (.o .s) (.p (.o (.p .s (.p .s (.p .s (.p .s (.p (.o .s) .s)))))) .s)))
  | 63 => (.p .s (.p (.o .s) (.p (.o (.p .s (.p .s (.p .s (.p .s (.p (.o .s) .s)))))) .s)))
  | 65 => (.p .s (.p .s (.p (.o (.p .s (.p .s (.p .s (.p .s (.p (.o .s) .s)))))) .s)))
  | 66 => (.p .s (.p .s (.p (.o (.p .s (.p .s (.p .s (.p .s (.p (.o .s) .s)))))) .s)))
  | 69 => (.p .s (.p (.o (.p .s (.p .s (.p .s (.p .s (.p (.o .s) .s)))))) (.p (.o .s) .s)))
  | 70 => (.p .s (.p (.o (.p .s (.p .s (.p .s (.p .s (.p (.o .s) .s)))))) (.p (.o .s) .s)))
  | 71 => (.p .s (.p (.o (.p .s (.p .s (.p .s (.p .s (.p (.o .s) .s)))))) (.p (.o .s) .s)))
  | 72 => (.p .s (.p (.o (.p .s (.p .s (.p .s (.p .s (.p (.o .s) .s)))))) (.p (.o .s) .s)))
  | 73 => (.p .s (.p (.o .s) .s))
  | 74 => (.p .s (.p (.o .s) .s))
  | 93 => (.o (.p .s (.p (.o .s) .s)))
  | 96 => (.p .s (.p (.o .s) .s))
  | 97 => (.p .s (.p (.o .s) .s))
  | 101 => (.p (.o .s) .s)
  | 102 => (.p (.o .s) .s)
  | 106 => (.p (.p (.o (.p (.o .s) (.p (.o .s) .s))) (.p (.o .s) (.p (.o .s) (.p (.o .s) (.p (.o .s) .s))))) .s)
  | 107 => (.p (.p (.o (.p (.o .s) (.p (.o .s) .s))) (.p (.o .s) (.p (.o .s) (.p (.o .s) (.p (.o .s) .s))))) .s)
  | 117 => (.p .s (.p .s (.p .s (.p .s (.p (.o .s) .s)))))
  | 118 => (.p .s (.p .s (.p .s (.p .s (.p (.o .s) .s)))))
  | 154 => (.o (.p .s (.p (.o .s) (.p (.o .s) .s))))
  | 155 => (.p (.p (.o (.p (.o .s) (.p (.o .s) .s))) (.p (.o .s) (.p (.o .s) (.p (.o .s) (.p (.o .s) .s))))) (.p (.o .s) (.p (.o .s) (.p (.o (.p .s (.p (.o .s) (.p (.o .s) .s)))) .s))))
  | 156 => (.p (.p (.o (.p (.o .s) (.p (.o .s) .s))) (.p (.o .s) (.p (.o .s) (.p (.o .s) (.p (.o .s) .s))))) (.p (.o .s) (.p (.o .s) (.p (.o (.p .s (.p (.o .s) (.p (.o .s) .s)))) .s))))
  | 177 => (.o .s)
  | 178 => (.p (.o .s) .s)
  | 179 => (.p (.o .s) .s)
  | 183 => (.o (.o .s))
  | 185 => (.p .s (.p (.o .s) (.p (.o .s) .s)))
  | 186 => (.p .s (.p (.o .s) (.p (.o .s) .s)))
  | 212 => (.p (.o .s) .s)
  | 213 => (.p (.o .s) .s)
  | _ => .s
noncomputable def env_load_Same_1 : Env := { ty := envTy, eq := envEq, gam := gam_load_Same_1, n := Tryz.f20.ntmps, fz := fz_load_Same_1, om := om_load_Same_1 }
theorem gamOk_load_Same_1 : EnvFn Tryz.prog env_load_Same_1 := by
  intro f gs c h
  unfold env_load_Same_1 gam_load_Same_1 at h
  simp only at h
  split at h <;> first | (cases h; done) | (cases h; exact h_slices_EqualInt)
noncomputable def p_load_Same_1 {R : Type} (a0 : (List (Int)) × (List (Int)) × Unit) (a1 : (List (Int)) × (List (Int)) × Unit) (K : Bool → Option R) : Option R :=
  p_slices_EqualInt a0.1 a1.1 fun r1 =>
  cond r1
  (p_slices_EqualInt a0.2.1 a1.2.1 fun r2 =>
  K r2)
  (K false)
noncomputable def cs_load_Same_1 : CSpec := { ins := [(.val (.pair (.sl 3 (.int .i64)) (.pair (.sl 3 (.int .i64)) .unit)) .s), (.val (.pair (.sl 3 (.int .i64)) (.pair (.sl 3 (.int .i64)) .unit)) .s)], outs := [(.bool, .s)], fn := fun (d : ((List (Int)) × (List (Int)) × Unit) × ((List (Int)) × (List (Int)) × Unit) × Unit) K _ => p_load_Same_1 d.1 d.2.1 (fun r0 => K ((r0, ()) : Bool × Unit) ((()) : Unit)) }
theorem h_load_Same_1 : Holds Tryz.prog 20 cs_load_Same_1 := by
  refine holds_of (env := env_load_Same_1) (inl := inl0) (fn := Tryz.f20) (code := body Tryz.f20.body) (rs := [(4, none)]) (lp := lp0) mixed ⟨envTyOk.ty, envTyOk.eq⟩ gamOk_load_Same_1 inl0_ok Tryz.func20 (by kernel_rfl) (by kernel_rfl) (by kernel_rfl) (by kernel_rfl) (by kernel_rfl) (loopsOk_none (by kernel_rfl) (by kernel_rfl)) (by kernel_rfl) ?_
  intro d R K Kp res h
  have : evC env_load_Same_1 lp0 inl0 (body Tryz.f20.body) (St.start cs_load_Same_1.ins d) (retK env_load_Same_1 cs_load_Same_1.ins cs_load_Same_1.outs [(4, none)] cs_load_Same_1.pan K Kp) = cs_load_Same_1.fn d K Kp := by kernel_rfl
  rw [this]; exact h
-- f22 slices.Equal[[]trammel/api.Import,trammel/api.Import]
noncomputable def env_slices_Equal_Import : Env := { ty := envTy, eq := envEq, gam := noG, n := Tryz.f22.ntmps }
structure X_slices_Equal_Import_4 where
  f0 : List ((List UInt8) × It0)
  f1 : List ((List UInt8) × It0)
  f12 : Int
  f13 : Int

noncomputable def B_slices_Equal_Import_4 {R : Type} (k_ret : Bool → Option R) (k_exit_0 : Option R) (rec : X_slices_Equal_Import_4 → Option R) (x : X_slices_Equal_Import_4) : Option R :=
  let v1 := decide (x.f13 < x.f12)
  cond v1
  (cond (inB x.f13 (List.length x.f0))
  (let v2 := List.getD x.f0 x.f13.toNat (([] : List UInt8), (([] : List UInt8), ((0 : Int), ((0 : Int), (((0 : Int), (false, ((0 : Int), ()))), (false, ()))))))
  cond (inB x.f13 (List.length x.f1))
  (let v3 := List.getD x.f1 x.f13.toNat (([] : List UInt8), (([] : List UInt8), ((0 : Int), ((0 : Int), (((0 : Int), (false, ((0 : Int), ()))), (false, ()))))))
  let v4 := !((v2.1 == v3.1) && ((v2.2.1 == v3.2.1) && ((v2.2.2.1 == v3.2.2.1) && ((v2.2.2.2.1 == v3.2.2.2.1) && (((v2.2.2.2.2.1.1 == v3.2.2.2.2.1.1) && ((v2.2.2.2.2.1.2.1 == v3.2.2.2.2.1.2.1) && ((v2.2.2.2.2.1.2.2.1 == v3.2.2.2.2.1.2.2.1) && true))) && ((v2.2.2.2.2.2.1 == v3.2.2.2.2.2.1) && true))))))
  cond v4
  (k_ret false)
  (let v5 := IntKind.i64.wrap (x.f13 + (1 : Int))
  rec ⟨x.f0, x.f1, x.f12, v5⟩)) none) none)
  (k_exit_0)
noncomputable def S_slices_Equal_Import_4 (x : X_slices_Equal_Import_4) : St := St.ofList [(0, (.v Ty10 .s x.f0)), (1, (.v Ty10 .s x.f1)), (12, (.v (.int .i64) .s x.f12)), (13, (.v (.int .i64) .s x.f13))]
def out_slices_Equal_Import_4 : Ex → List (Nat × Bool) | .ret => [(4, false)] | .exit 0 => [] | _ => []
noncomputable def fuel_slices_Equal_Import_4 (x : X_slices_Equal_Import_4) : Nat := fuel64
noncomputable def c_slices_Equal_Import_4 : Code := match loopAt 4 (body Tryz.f22.body) with | some c => c | none => .skip
noncomputable def lp_slices_Equal_Import : Loops := fun z i R st K => match z, i with
  | false, 4 => coerce [(0, false), (1, false), (12, false), (13, false)] st (fun st => mV Ty10 .s (st 0) fun y0 => mV Ty10 .s (st 1) fun y1 => mV (.int .i64) .s (st 12) fun y12 => mV (.int .i64) .s (st 13) fun y13 => loopN (B_slices_Equal_Import_4 (fun e4 => K .ret (St.ofList [(4, (.v .bool .s e4))])) (K (.exit 0) (St.ofList []))) (fuel_slices_Equal_Import_4 ⟨y0, y1, y12, y13⟩) ⟨y0, y1, y12, y13⟩)
  | _, _ => none
theorem step_slices_Equal_Import_4 (R : Type) (K : Ex → St → Option R) (rec : St → Option R) (x : X_slices_Equal_Import_4) : evC env_slices_Equal_Import lp_slices_Equal_Import inl0 c_slices_Equal_Import_4 (S_slices_Equal_Import_4 x) (fun e st => match e with | .normal => coerce [(0, false), (1, false), (12, false), (13, false)] st rec | e => coerce (out_slices_Equal_Import_4 e) st (K e)) = B_slices_Equal_Import_4 (fun e4 => K .ret (St.ofList [(4, (.v .bool .s e4))])) (K (.exit 0) (St.ofList [])) (fun x => rec (S_slices_Equal_Import_4 x)) x := by kernel_rfl
theorem ok_slices_Equal_Import_4 : LoopOk env_slices_Equal_Import lp_slices_Equal_Import inl0 c_slices_Equal_Import_4 := by
  refine loopOk_of (hd := [(0, false), (1, false), (12, false), (13, false)]) (out := out_slices_Equal_Import_4) (S := S_slices_Equal_Import_4) (fun _ K => B_slices_Equal_Import_4 (fun e4 => K .ret (St.ofList [(4, (.v .bool .s e4))])) (K (.exit 0) (St.ofList []))) fuel_slices_Equal_Import_4 4 step_slices_Equal_Import_4 (by kernel_rfl) (fun R K => fun st => mV Ty10 .s (st 0) fun y0 => mV Ty10 .s (st 1) fun y1 => mV (.int .i64) .s (st 12) fun y12 => mV (.int .i64) .s (st 13) fun y13 => loopN (B_slices_Equal_Import_4 (fun e4 => K .ret (St.ofList [(4, (.v .bool .s e4))])) (K (.exit 0) (St.ofList []))) (fuel_slices_Equal_Import_4 ⟨y0, y1, y12, y13⟩) ⟨y0, y1, y12, y13⟩) (fun R st K => by kernel_rfl) ?_
  intro R K st r h
  obtain ⟨y0, hy0, h⟩ := mV_inv h
  obtain ⟨y1, hy1, h⟩ := mV_inv h
  obtain ⟨y12, hy12, h⟩ := mV_inv h
  obtain ⟨y13, hy13, h⟩ := mV_inv h
  exact ⟨⟨y0, y1, y12, y13⟩, only_of_list (ofList_cons hy0 (ofList_cons hy1 (ofList_cons hy12 (ofList_cons hy13 rfl)))), h⟩
theorem loops_slices_Equal_Import : LoopsOk env_slices_Equal_Import lp_slices_Equal_Import inl0 (body Tryz.f22.body) := by
  refine loopsOk_of (fun c hc => ?_) (fun c hc => ?_)
  · rw [show loopsL (body Tryz.f22.body) = [c_slices_Equal_Import_4] by kernel_rfl] at hc
    simp only [List.mem_cons, List.not_mem_nil, or_false] at hc
    rcases hc with rfl
    · exact ok_slices_Equal_Import_4
  · rw [show joinsL env_slices_Equal_Import (body Tryz.f22.body) = [] by kernel_rfl] at hc; cases hc
noncomputable def p_slices_Equal_Import {R : Type} (a0 : List ((List UInt8) × It0)) (a1 : List ((List UInt8) × It0)) (K : Bool → Option R) : Option R :=
  let v1 := ((List.length a0 : Nat) : Int)
  let v2 := ((List.length a1 : Nat) : Int)
  let v3 := v1 != v2
  cond v3
  (K false)
  (let v4 := ((List.length a0 : Nat) : Int)
  loopN (B_slices_Equal_Import_4 (fun w5 =>
  K w5) (K true)) (fuel_slices_Equal_Import_4 ⟨a0, a1, v4, (0 : Int)⟩) ⟨a0, a1, v4, (0 : Int)⟩)
noncomputable def cs_slices_Equal_Import : CSpec := { ins := [(.val Ty10 .s), (.val Ty10 .s)], outs := [(.bool, .s)], fn := fun (d : (List ((List UInt8) × It0)) × (List ((List UInt8) × It0)) × Unit) K _ => p_slices_Equal_Import d.1 d.2.1 (fun r0 => K ((r0, ()) : Bool × Unit) ((()) : Unit)) }
theorem h_slices_Equal_Import : Holds Tryz.prog 22 cs_slices_Equal_Import := by
  refine holds_of (env := env_slices_Equal_Import) (inl := inl0) (fn := Tryz.f22) (code := body Tryz.f22.body) (rs := [(4, none)]) (lp := lp_slices_Equal_Import) mixed ⟨envTyOk.ty, envTyOk.eq⟩ (fun _ _ _ h => by cases h) inl0_ok Tryz.func22 (by kernel_rfl) (by kernel_rfl) (by kernel_rfl) (by kernel_rfl) (by kernel_rfl) loops_slices_Equal_Import (by kernel_rfl) ?_
  intro d R K Kp res h
  have : evC env_slices_Equal_Import lp_slices_Equal_Import inl0 (body Tryz.f22.body) (St.start cs_slices_Equal_Import.ins d) (retK env_slices_Equal_Import cs_slices_Equal_Import.ins cs_slices_Equal_Import.outs [(4, none)] cs_slices_Equal_Import.pan K Kp) = cs_slices_Equal_Import.fn d K Kp := by kernel_rfl
  rw [this]; exact h
-- f55 trammel/load.instrs$1
noncomputable def gam_load_instrs_1 : FuncId → List FuncId → Option CSpec
  | 21, [] => some cs_slices_EqualInt
  | _, _ => none
noncomputable def fz_load_instrs_1 : Nat → Bool
  | 2 => true
  | 3 => true
  | _ => false
noncomputable def om_load_instrs_1 : TypeId → Md
  | 22 => (.o .s)
  | 25 => (.o (.p (.o .s) (.p (.o .s) .s)))
  | 26 => (.o .s)
  | 27 => (.o (.p .s (.p (.o .s) (.p (.o (.p .s (.p .s (.p .s (.p .s (.p (.o .s) .s)))))) .s))))
  | 28 => (.o .s)
  | 29 => (.o (.p .s (.p .s (.p (.o (.p .s (.p .s (.p .s (.p .s (.p (.o .s) .s)))))) .s))))
  | 30 => (.o .s)
  | 31 => (.o .s)
  | 32 => (.o (.p .s (.p (.o (.p .s (.p .s (.p .s (.p .s (.p (.o .s) .s)))))) (.p (.o .s) .s))))
  | 33 => (.o (.p .s (.p (.o (.p .s (.p .s (.p .s (.p .s (.p (.o .s) .s)))))) (.p (.o .s) .s))))
  | 34 => (.o (.p .s (.p (.o .s) .s)))
  | 35 => (.p (.o (.p (.o .s) (.p (.o .s) .s))) (.p (.o .s) (.p (.o (.p .s (.p (.o .s) (.p (.o (.p .s (.p .s (.p .s (.p .s (.p (.o .s) .s)))))) .s)))) (.p (.o .s) (.p (.o .s) (.p (.o (.p .s (.p .s (.p (.o (.p .s (.p .s (.p .s (.p .s (.p (.o .s) .s)))))) .s)))) (.p (.o .s) (.p (.o .s) (.p (.o (.p .s (.p (.o (.p .s (.p .s (.p .s (.p .s (.p (.o .s) .s)))))) (.p (.o .s) .s)))) (.p (.o .s) (.p (.o (.p .s (.p (.o (.p .s (.p .s (.p .s (.p .s (.p (.o .s) .s)))))) (.p (.o .s) .s)))) (.p (.o (.p .s (.p (.o .s) .s))) .s))))))))))))
  | 36 => (.p (.o (.p (.o .s) (.p (.o .s) .s))) (.p (.o .s) (.p (.o (.p .s (.p (.o .s) (.p (.o (.p .s (.p .s (.p .s (.p .s (.p (.o .s) .s)))))) .s)))) (.p (.o .s) (.p (.o .s) (.p (.o (.p .s (.p .s (.p (.o (.p .s (.p .s (.p .s (.p .s (.p (.o .s) .s)))))) .s)))) (.p (.o .s) (.p (.o .s) (.p (.o (.p .s (.p (.o (.p .s (.p .s (.p .s (.p .s (.p (.o .s) .s)))))) (.p (.o .s) .s)))) (.p (.o .s) (.p (.o (.p .s (.p (.o (.p .s (.p .s (.p .s (.p .s (.p (.o .s) .s)))))) (.p (.o .s) .s)))) (.p (.o (.p .s (.p (.o .s) .s))) .s))))))))))))
  | 37 => (.o .s)
  | 38 => (.p (.o (.p (.o .s) (.p (.o .s) .s))) (.p (.o .s) (.p (.o .s) (.p (.o .s) (.p (.o .s) .s)))))
  | 39 => (.p (.o (.p (.o .s) (.p (.o .s) .s))) (.p (.o .s) (.p (.o .s) (.p (.o .s) (.p (.o .s) .s)))))
  | 54 => (.p (.o .s) (.p (.o .s) .s))
  | 55 => (.p (.o .s) (.p (.o .s) .s))
  | 61 => (.o (.p .s (.p .s (.p .s (.p .s (.p (.o .s) .s))))))
  | 62 => (.p .s (.p (.o .s) (.p (.o (.p .s (.p .s (.p .s (.p .s (.p (.o .s) .s)))))) .s)))
  | 63 => (.p .s (.p (.o .s) (.p (.o (.p .s (.p .s (.p .s (.p .s (.p (.o .s) .s)))))) .s)))
  | 65 => (.p .s (.p .s (.p (.o (.p .s (.p .s (.p .s (.p .s (.p (.o .s) .s)))))) .s)))
  | 66 => (.p .s (.p .s (.p (.o (.p .s (.p .s (.p .s (.p .s (.p (.o .s) .s)))))) .s)))
  | 69 => (.p .s (.p (.o (.p .s (.p .s (.p .s (.p .s (.p (.o .s) .s)))))) (.p (.o .s) .s)))
  | 70 => (.p .s (.p (.o (.p .s (.p .s (.p .s (.p .s (.p (.o .s) .s)))))) (.p (.o .s) .s)))
  | 71 => (.p .s (.p (.o (.p .s (.p .s (.p .s (.p .s (.p (.o .s) .s)))))) (.p (.o .s) .s)))
  | 72 => (.p .s (.p (.o (.p .s (.p .s (.p .s (.p .s (.p (.o .s) .s)))))) (.p (.o .s) .s)))
  | 73 => (.p .s (.p (.o .s) .s))
  | 74 => (.p .s (.p (.o .s) .s))
  | 93 => (.o (.p .s (.p (.o .s) .s)))
  | 96 => (.p .s (.p (.o .s) .s))
  | 97 => (.p .s (.p (.o .s) .s))
  | 101 => (.p (.o .s) .s)
  | 102 => (.p (.o .s) .s)
  | 106 => (.p (.p (.o (.p (.o .s) (.p (.o .s) .s))) (.p (.o .s) (.p (.o .s) (.p (.o .s) (.p (.o .s) .s))))) .s)
  | 107 => (.p (.p (.o (.p (.o .s) (.p (.o .s) .s))) (.p (.o .s) (.p (.o .s) (.p (.o .s) (.p (.o .s) .s))))) .s)
  | 117 => (.p .s (.p .s (.p .s (.p .s (.p (.o .s) .s)))))
  | 118 => (.p .s (.p .s (.p .s (.p .s (.p (.o .s) .s)))))
  | 154 => (.o (.p .s (.p (.o .s) (.p (.o .s) .s))))
  | 155 => (.p (.p (.o (.p (.o .s) (.p (.o .s) .s))) (.p (.o .s) (.p (.o .s) (.p (.o .s) (.p (.o .s) .s))))) (.p (.o .s) (.p (.o .s) (.p (.o (.p .s (.p (.o .s) (.p (.o .s) .s)))) .s))))
  | 156 => (.p (.p (.o (.p (.o .s) (.p (.o .s) .s))) (.p (.o .s) (.p (.o .s) (.p (.o .s) (.p (.o .s) .s))))) (.p (.o .s) (.p (.o .s) (.p (.o (.p .s (.p (.o .s) (.p (.o .s) .s)))) .s))))
  | 177 => (.o .s)
  | 178 => (.p (.o .s) .s)
  | 179 => (.p (.o .s) .s)
  | 183 => (.o (.o .s))
  | 185 => (.p .s (.p (.o .s) (.p (.o .s) .s)))
  | 186 => (.p .s (.p (.o .s) (.p (.o .s) .s)))
  | 212 => (.p (.o .s) .s)
  | 213 => (.p (.o .s) .s)
  | _ => .s
noncomputable def env_load_instrs_1 : Env := { ty := envTy, eq := envEq, gam := gam_load_instrs_1, n := Tryz.f55.ntmps, fz := fz_load_instrs_1, om := om_load_instrs_1 }
theorem gamOk_load_instrs_1 : EnvFn Tryz.prog env_load_instrs_1 := by
  intro f gs c h
  unfold env_load_instrs_1 gam_load_instrs_1 at h
  simp only at h
  split at h <;> first | (cases h; done) | (cases h; exact h_slices_EqualInt)
noncomputable def p_load_instrs_1 {R : Type} (a0 : (Int) × (Int) × (Int) × (Int) × (List (Int)) × Unit) (a1 : (Int) × (Int) × (Int) × (Int) × (List (Int)) × Unit) (K : Bool → Option R) : Option R :=
  let v1 := a0.1 == a1.1
  cond v1
  (let v2 := a0.2.1 == a1.2.1
  cond v2
  (let v3 := a0.2.2.1 == a1.2.2.1
  cond v3
  (let v4 := a0.2.2.2.1 == a1.2.2.2.1
  cond v4
  (p_slices_EqualInt a0.2.2.2.2.1 a1.2.2.2.2.1 fun r5 =>
  K r5)
  (K false))
  (K false))
  (K false))
  (K false)
noncomputable def cs_load_instrs_1 : CSpec := { ins := [(.val (.pair (.int .i64) (.pair (.int .i64) Ty11)) .s), (.val (.pair (.int .i64) (.pair (.int .i64) Ty11)) .s)], outs := [(.bool, .s)], fn := fun (d : ((Int) × (Int) × (Int) × (Int) × (List (Int)) × Unit) × ((Int) × (Int) × (Int) × (Int) × (List (Int)) × Unit) × Unit) K _ => p_load_instrs_1 d.1 d.2.1 (fun r0 => K ((r0, ()) : Bool × Unit) ((()) : Unit)) }
theorem h_load_instrs_1 : Holds Tryz.prog 55 cs_load_instrs_1 := by
  refine holds_of (env := env_load_instrs_1) (inl := inl0) (fn := Tryz.f55) (code := body Tryz.f55.body) (rs := [(4, none)]) (lp := lp0) mixed ⟨envTyOk.ty, envTyOk.eq⟩ gamOk_load_instrs_1 inl0_ok Tryz.func55 (by kernel_rfl) (by kernel_rfl) (by kernel_rfl) (by kernel_rfl) (by kernel_rfl) (loopsOk_none (by kernel_rfl) (by kernel_rfl)) (by kernel_rfl) ?_
  intro d R K Kp res h
  have : evC env_load_instrs_1 lp0 inl0 (body Tryz.f55.body) (St.start cs_load_instrs_1.ins d) (retK env_load_instrs_1 cs_load_instrs_1.ins cs_load_instrs_1.outs [(4, none)] cs_load_instrs_1.pan K Kp) = cs_load_instrs_1.fn d K Kp := by kernel_rfl
  rw [this]; exact h
-- f54 slices.EqualFunc[[]trammel/api.Instr,[]trammel/api.Instr,trammel/api.Instr,trammel/api.Instr]
noncomputable def gam_slices_EqualFunc_Instrg55 : FuncId → List FuncId → Option CSpec
  | 55, [] => some cs_load_instrs_1
  | _, _ => none
noncomputable def fs_slices_EqualFunc_Instrg55 : Nat → Bool
  | 8 => true
  | 9 => true
  | _ => false
noncomputable def env_slices_EqualFunc_Instrg55 : Env := { ty := envTy, eq := envEq, gam := gam_slices_EqualFunc_Instrg55, n := Tryz.f54.ntmps, fs := fs_slices_EqualFunc_Instrg55 }
theorem gamOk_slices_EqualFunc_Instrg55 : EnvFn Tryz.prog env_slices_EqualFunc_Instrg55 := by
  intro f gs c h
  unfold env_slices_EqualFunc_Instrg55 gam_slices_EqualFunc_Instrg55 at h
  simp only at h
  split at h <;> first | (cases h; done) | (cases h; exact h_load_instrs_1)
structure X_slices_EqualFunc_Instrg55_4 where
  f1 : List ((Int) × (Int) × (Int) × (Int) × (List (Int)) × Unit)
  f15 : List ((Int) × (Int) × (Int) × (Int) × (List (Int)) × Unit)
  f16 : Int
  f17 : Int

noncomputable def B_slices_EqualFunc_Instrg55_4 {R : Type} (k_ret : Bool → Option R) (k_exit_0 : Option R) (rec : X_slices_EqualFunc_Instrg55_4 → Option R) (x : X_slices_EqualFunc_Instrg55_4) : Option R :=
  let v1 := decide (x.f17 < x.f16)
  cond v1
  (cond (inB x.f17 (List.length x.f15))
  (let v2 := List.getD x.f15 x.f17.toNat ((0 : Int), ((0 : Int), ((0 : Int), ((0 : Int), (([] : List (Int)), ())))))
  cond (inB x.f17 (List.length x.f1))
  (let v3 := List.getD x.f1 x.f17.toNat ((0 : Int), ((0 : Int), ((0 : Int), ((0 : Int), (([] : List (Int)), ())))))
  p_load_instrs_1 v2 v3 fun r4 =>
  let v5 := !r4
  cond v5
  (k_ret false)
  (let v6 := IntKind.i64.wrap (x.f17 + (1 : Int))
  rec ⟨x.f1, x.f15, x.f16, v6⟩)) none) none)
  (k_exit_0)
noncomputable def S_slices_EqualFunc_Instrg55_4 (x : X_slices_EqualFunc_Instrg55_4) : St := St.ofList [(1, (.v (.sl 118 (.pair (.int .i64) (.pair (.int .i64) Ty11))) .s x.f1)), (2, (.fn 55 [] [])), (15, (.v (.sl 118 (.pair (.int .i64) (.pair (.int .i64) Ty11))) .s x.f15)), (16, (.v (.int .i64) .s x.f16)), (17, (.v (.int .i64) .s x.f17))]
def out_slices_EqualFunc_Instrg55_4 : Ex → List (Nat × Bool) | .ret => [(6, false)] | .exit 0 => [] | _ => []
noncomputable def fuel_slices_EqualFunc_Instrg55_4 (x : X_slices_EqualFunc_Instrg55_4) : Nat := fuel64
noncomputable def c_slices_EqualFunc_Instrg55_4 : Code := match loopAt 4 (body Tryz.f54.body) with | some c => c | none => .skip
noncomputable def lp_slices_EqualFunc_Instrg55 : Loops := fun z i R st K => match z, i with
  | false, 4 => coerce [(1, false), (2, false), (15, false), (16, false), (17, false)] st (fun st => mV (.sl 118 (.pair (.int .i64) (.pair (.int .i64) Ty11))) .s (st 1) fun y1 => mFn 55 [] [] (st 2) (mV (.sl 118 (.pair (.int .i64) (.pair (.int .i64) Ty11))) .s (st 15) fun y15 => mV (.int .i64) .s (st 16) fun y16 => mV (.int .i64) .s (st 17) fun y17 => loopN (B_slices_EqualFunc_Instrg55_4 (fun e6 => K .ret (St.ofList [(6, (.v .bool .s e6))])) (K (.exit 0) (St.ofList []))) (fuel_slices_EqualFunc_Instrg55_4 ⟨y1, y15, y16, y17⟩) ⟨y1, y15, y16, y17⟩))
  | _, _ => none
theorem step_slices_EqualFunc_Instrg55_4 (R : Type) (K : Ex → St → Option R) (rec : St → Option R) (x : X_slices_EqualFunc_Instrg55_4) : evC env_slices_EqualFunc_Instrg55 lp_slices_EqualFunc_Instrg55 inl0 c_slices_EqualFunc_Instrg55_4 (S_slices_EqualFunc_Instrg55_4 x) (fun e st => match e with | .normal => coerce [(1, false), (2, false), (15, false), (16, false), (17, false)] st rec | e => coerce (out_slices_EqualFunc_Instrg55_4 e) st (K e)) = B_slices_EqualFunc_Instrg55_4 (fun e6 => K .ret (St.ofList [(6, (.v .bool .s e6))])) (K (.exit 0) (St.ofList [])) (fun x => rec (S_slices_EqualFunc_Instrg55_4 x)) x := by kernel_rfl
theorem ok_slices_EqualFunc_Instrg55_4 : LoopOk env_slices_EqualFunc_Instrg55 lp_slices_EqualFunc_Instrg55 inl0 c_slices_EqualFunc_Instrg55_4 := by
  refine loopOk_of (hd := [(1, false), (2, false), (15, false), (16, false), (17, false)]) (out := out_slices_EqualFunc_Instrg55_4) (S := S_slices_EqualFunc_Instrg55_4) (fun _ K => B_slices_EqualFunc_Instrg55_4 (fun e6 => K .ret (St.ofList [(6, (.v .bool .s e6))])) (K (.exit 0) (St.ofList []))) fuel_slices_EqualFunc_Instrg55_4 4 step_slices_EqualFunc_Instrg55_4 (by kernel_rfl) (fun R K => fun st => mV (.sl 118 (.pair (.int .i64) (.pair (.int .i64) Ty11))) .s (st 1) fun y1 => mFn 55 [] [] (st 2) (mV (.sl 118 (.pair (.int .i64) (.pair (.int .i64) Ty11))) .s (st 15) fun y15 => mV (.int .i64) .s (st 16) fun y16 => mV (.int .i64) .s (st 17) fun y17 => loopN (B_slices_EqualFunc_Instrg55_4 (fun e6 => K .ret (St.ofList [(6, (.v .bool .s e6))])) (K (.exit 0) (St.ofList []))) (fuel_slices_EqualFunc_Instrg55_4 ⟨y1, y15, y16, y17⟩) ⟨y1, y15, y16, y17⟩)) (fun R st K => by kernel_rfl) ?_
  intro R K st r h
  obtain ⟨y1, hy1, h⟩ := mV_inv h
  obtain ⟨hy2, h⟩ := mFn_inv h
  obtain ⟨y15, hy15, h⟩ := mV_inv h
  obtain ⟨y16, hy16, h⟩ := mV_inv h
  obtain ⟨y17, hy17, h⟩ := mV_inv h
  exact ⟨⟨y1, y15, y16, y17⟩, only_of_list (ofList_cons hy1 (ofList_cons hy2 (ofList_cons hy15 (ofList_cons hy16 (ofList_cons hy17 rfl))))), h⟩
theorem loops_slices_EqualFunc_Instrg55 : LoopsOk env_slices_EqualFunc_Instrg55 lp_slices_EqualFunc_Instrg55 inl0 (body Tryz.f54.body) := by
  refine loopsOk_of (fun c hc => ?_) (fun c hc => ?_)
  · rw [show loopsL (body Tryz.f54.body) = [c_slices_EqualFunc_Instrg55_4] by kernel_rfl] at hc
    simp only [List.mem_cons, List.not_mem_nil, or_false] at hc
    rcases hc with rfl
    · exact ok_slices_EqualFunc_Instrg55_4
  · rw [show joinsL env_slices_EqualFunc_Instrg55 (body Tryz.f54.body) = [] by kernel_rfl] at hc; cases hc
noncomputable def p_slices_EqualFunc_Instrg55 {R : Type} (a0 : List ((Int) × (Int) × (Int) × (Int) × (List (Int)) × Unit)) (a1 : List ((Int) × (Int) × (Int) × (Int) × (List (Int)) × Unit)) (K : Bool → Option R) : Option R :=
  let v1 := ((List.length a0 : Nat) : Int)
  let v2 := ((List.length a1 : Nat) : Int)
  let v3 := v1 != v2
  cond v3
  (K false)
  (let v4 := ((List.length a0 : Nat) : Int)
  loopN (B_slices_EqualFunc_Instrg55_4 (fun w5 =>
  K w5) (K true)) (fuel_slices_EqualFunc_Instrg55_4 ⟨a1, a0, v4, (0 : Int)⟩) ⟨a1, a0, v4, (0 : Int)⟩)
noncomputable def cs_slices_EqualFunc_Instrg55 : CSpec := { ins := [(.val (.sl 118 (.pair (.int .i64) (.pair (.int .i64) Ty11))) .s), (.val (.sl 118 (.pair (.int .i64) (.pair (.int .i64) Ty11))) .s), (.fn 55)], outs := [(.bool, .s)], fn := fun (d : (List ((Int) × (Int) × (Int) × (Int) × (List (Int)) × Unit)) × (List ((Int) × (Int) × (Int) × (Int) × (List (Int)) × Unit)) × Unit × Unit) K _ => p_slices_EqualFunc_Instrg55 d.1 d.2.1 (fun r0 => K ((r0, ()) : Bool × Unit) ((()) : Unit)) }
theorem h_slices_EqualFunc_Instrg55 : Holds Tryz.prog 54 cs_slices_EqualFunc_Instrg55 := by
  refine holds_of (env := env_slices_EqualFunc_Instrg55) (inl := inl0) (fn := Tryz.f54) (code := body Tryz.f54.body) (rs := [(6, none)]) (lp := lp_slices_EqualFunc_Instrg55) mixed ⟨envTyOk.ty, envTyOk.eq⟩ gamOk_slices_EqualFunc_Instrg55 inl0_ok Tryz.func54 (by kernel_rfl) (by kernel_rfl) (by kernel_rfl) (by kernel_rfl) (by kernel_rfl) loops_slices_EqualFunc_Instrg55 (by kernel_rfl) ?_
  intro d R K Kp res h
  have : evC env_slices_EqualFunc_Instrg55 lp_slices_EqualFunc_Instrg55 inl0 (body Tryz.f54.body) (St.start cs_slices_EqualFunc_Instrg55.ins d) (retK env_slices_EqualFunc_Instrg55 cs_slices_EqualFunc_Instrg55.ins cs_slices_EqualFunc_Instrg55.outs [(6, none)] cs_slices_EqualFunc_Instrg55.pan K Kp) = cs_slices_EqualFunc_Instrg55.fn d K Kp := by kernel_rfl
  rw [this]; exact h
-- f25 trammel/load.instrs
noncomputable def gam_load_instrs : FuncId → List FuncId → Option CSpec
  | 54, [55] => some cs_slices_EqualFunc_Instrg55
  | _, _ => none
noncomputable def om_load_instrs : TypeId → Md
  | 22 => (.o .s)
  | 25 => (.o (.p (.o .s) (.p (.o .s) .s)))
  | 26 => (.o .s)
  | 27 => (.o (.p .s (.p (.o .s) (.p (.o (.p .s (.p .s (.p .s (.p .s (.p (.o .s) .s)))))) .s))))
  | 28 => (.o .s)
  | 29 => (.o (.p .s (.p .s (.p (.o (.p .s (.p .s (.p .s (.p .s (.p (.o .s) .s)))))) .s))))
  | 30 => (.o .s)
  | 31 => (.o .s)
  | 32 => (.o (.p .s (.p (.o (.p .s (.p .s (.p .s (.p .s (.p (.o .s) .s)))))) (.p (.o .s) .s))))
  | 33 => (.o (.p .s (.p (.o (.p .s (.p .s (.p .s (.p .s (.p (.o .s) .s)))))) (.p (.o .s) .s))))
  | 34 => (.o (.p .s (.p (.o .s) .s)))
  | 35 => (.p (.o (.p (.o .s) (.p (.o .s) .s))) (.p (.o .s) (.p (.o (.p .s (.p (.o .s) (.p (.o (.p .s (.p .s (.p .s (.p .s (.p (.o .s) .s)))))) .s)))) (.p (.o .s) (.p (.o .s) (.p (.o (.p .s (.p .s (.p (.o (.p .s (.p .s (.p .s (.p .s (.p (.o .s) .s)))))) .s)))) (.p (.o .s) (.p (.o .s) (.p (.o (.p .s (.p (.o (.p .s (.p .s (.p .s (.p .s (.p (.o .s) .s)))))) (.p (.o .s) .s)))) (.p (.o .s) (.p (.o (.p .s (.p (.o (.p .s (.p .s (.p .s (.p .s (.p (.o .s) .s)))))) (.p (.o .s) .s)))) (.p (.o (.p .s (.p (.o .s) .s))) .s))))))))))))
  | 36 => (.p (.o (.p (.o .s) (.p (.o .s) .s))) (.p (.o .s) (.p (.o (.p .s (.p (.o .s) (.p (.o (.p .s (.p .s (.p .s (.p .s (.p (.o .s) .s)))))) .s)))) (.p (.o .s) (.p (.o .s) (.p (.o (.p .s (.p .s (.p (.o (.p .s (.p .s (.p .s (.p .s (.p (.o .s) .s)))))) .s)))) (.p (.o .s) (.p (.o .s) (.p (.o (.p .s (.p (.o (.p .s (.p .s (.p .s (.p .s (.p (.o .s) .s)))))) (.p (.o .s) .s)))) (.p (.o .s) (.p (.o (.p .s (.p (.o (.p .s (.p .s (.p .s (.p .s (.p (.o .s) .s)))))) (.p (.o .s) .s)))) (.p (.o (.p .s (.p (.o .s) .s))) .s))))))))))))
  | 37 => (.o .s)
  | 38 => (.p (.o (.p (.o .s) (.p (.o .s) .s))) (.p (.o .s) (.p (.o .s) (.p (.o .s) (.p (.o .s) .s)))))
  | 39 => (.p (.o (.p (.o .s) (.p (.o .s) .s))) (.p (.o .s) (.p (.o .s) (.p (.o .s) (.p (.o .s) .s)))))
  | 54 => (.p (.o .s) (.p (.o .s) .s))
  | 55 => (.p (.o .s) (.p (.o .s) .s))
  | 61 => (.o (.p .s (.p .s (.p .s (.p .s (.p (.o .s) .s))))))
  | 62 => (.p .s (.p (.o .s) (.p (.o (.p .s (.p .s (.p .s (.p .s (.p (.o .s) .s)))))) .s)))
  | 63 => (.p .s (.p (.o .s) (.p (.o (.p .s (.p .s (.p .s (.p .s (.p (.o .s) .s)))))) .s)))
  | 65 => (.p .s (.p .s (.p (.o (.p .s (.p .s (.p .s (.p .s (.p (.o .s) .s)))))) .s)))
  | 66 => (.p .s (.p .s (.p (.o (.p .s (.p .s (.p .s (.p .s (.p (.o .s) .s)))))) .s)))
  | 69 => (.p .s (.p (.o (.p .s (.p .s (.p .s (.p .s (.p (.o .s) .s)))))) (.p (.o .s) .s)))
  | 70 => (.p .s (.p (.o (.p .s (.p .s (.p .s (.p .s (.p (.o .s) .s)))))) (.p (.o .s) .s)))
  | 71 => (.p .s (.p (.o (.p .s (.p .s (.p .s (.p .s (.p (.o .s) .s)))))) (.p (.o .s) .s)))
  | 72 => (.p .s (.p (.o (.p .s (.p .s (.p .s (.p .s (.p (.o .s) .s)))))) (.p (.o .s) .s)))
  | 73 => (.p .s (.p (.o .s) .s))
  | 74 => (.p .s (.p (.o .s) .s))
  | 93 => (.o (.p .s (.p (.o .s) .s)))
  | 96 => (.p .s (.p (.o .s) .s))
  | 97 => (.p .s (.p (.o .s) .s))
  | 101 => (.p (.o .s) .s)
  | 102 => (.p (.o .s) .s)
  | 106 => (.p (.p (.o (.p (.o .s) (.p (.o .s) .s))) (.p (.o .s) (.p (.o .s) (.p (.o .s) (.p (.o .s) .s))))) .s)
  | 107 => (.p (.p (.o (.p (.o .s) (.p (.o .s) .s))) (.p (.o .s) (.p (.o .s) (.p (.o .s) (.p (.o .s) .s))))) .s)
  | 117 => (.p .s (.p .s (.p .s (.p .s (.p (.o .s) .s)))))
  | 118 => (.p .s (.p .s (.p .s (.p .s (.p (.o .s) .s)))))
  | 154 => (.o (.p .s (.p (.o .s) (.p (.o .s) .s))))
  | 155 => (.p (.p (.o (.p (.o .s) (.p (.o .s) .s))) (.p (.o .s) (.p (.o .s) (.p (.o .s) (.p (.o .s) .s))))) (.p (.o .s) (.p (.o .s) (.p (.o (.p .s (.p (.o .s) (.p (.o .s) .s)))) .s))))
  | 156 => (.p (.p (.o (.p (.o .s) (.p (.o .s) .s))) (.p (.o .s) (.p (.o .s) (.p (.o .s) (.p (.o .s) .s))))) (.p (.o .s) (.p (.o .s) (.p (.o (.p .s (.p (.o .s) (.p (.o .s) .s)))) .s))))
  | 177 => (.o .s)
  | 178 => (.p (.o .s) .s)
  | 179 => (.p (.o .s) .s)
  | 183 => (.o (.o .s))
  | 185 => (.p .s (.p (.o .s) (.p (.o .s) .s)))
  | 186 => (.p .s (.p (.o .s) (.p (.o .s) .s)))
  | 212 => (.p (.o .s) .s)
  | 213 => (.p (.o .s) .s)
  | _ => .s
noncomputable def env_load_instrs : Env := { ty := envTy, eq := envEq, gam := gam_load_instrs, n := Tryz.f25.ntmps, om := om_load_instrs }
theorem gamOk_load_instrs : EnvFn Tryz.prog env_load_instrs := by
  intro f gs c h
  unfold env_load_instrs gam_load_instrs at h
  simp only at h
  split at h <;> first | (cases h; done) | (cases h; exact h_slices_EqualFunc_Instrg55)
noncomputable def p_load_instrs {R : Type} (a0 : List ((Int) × (Int) × (Int) × (Int) × (List (Int)) × Unit)) (a1 : List ((Int) × (Int) × (Int) × (Int) × (List (Int)) × Unit)) (K : Bool → Option R) : Option R :=
  p_slices_EqualFunc_Instrg55 a0 a1 fun r1 =>
  K r1
noncomputable def cs_load_instrs : CSpec := { ins := [(.val (.sl 118 (.pair (.int .i64) (.pair (.int .i64) Ty11))) .s), (.val (.sl 118 (.pair (.int .i64) (.pair (.int .i64) Ty11))) .s)], outs := [(.bool, .s)], fn := fun (d : (List ((Int) × (Int) × (Int) × (Int) × (List (Int)) × Unit)) × (List ((Int) × (Int) × (Int) × (Int) × (List (Int)) × Unit)) × Unit) K _ => p_load_instrs d.1 d.2.1 (fun r0 => K ((r0, ()) : Bool × Unit) ((()) : Unit)) }
theorem h_load_instrs : Holds Tryz.prog 25 cs_load_instrs := by
  refine holds_of (env := env_load_instrs) (inl := inl0) (fn := Tryz.f25) (code := body Tryz.f25.body) (rs := [(4, none)]) (lp := lp0) mixed ⟨envTyOk.ty, envTyOk.eq⟩ gamOk_load_instrs inl0_ok Tryz.func25 (by kernel_rfl) (by kernel_rfl) (by kernel_rfl) (by kernel_rfl) (by kernel_rfl) (loopsOk_none (by kernel_rfl) (by kernel_rfl)) (by kernel_rfl) ?_
  intro d R K Kp res h
  have : evC env_load_instrs lp0 inl0 (body Tryz.f25.body) (St.start cs_load_instrs.ins d) (retK env_load_instrs cs_load_instrs.ins cs_load_instrs.outs [(4, none)] cs_load_instrs.pan K Kp) = cs_load_instrs.fn d K Kp := by kernel_rfl
  rw [this]; exact h
-- f24 trammel/load.Same$2
noncomputable def gam_load_Same_2 : FuncId → List FuncId → Option CSpec
  | 21, [] => some cs_slices_EqualInt
  | 25, [] => some cs_load_instrs
  | _, _ => none
noncomputable def fz_load_Same_2 : Nat → Bool
  | 2 => true
  | 3 => true
  | _ => false
noncomputable def om_load_Same_2 : TypeId → Md
  | 22 => (.o .s)
  | 25 => (.o (.p (.o .s) (.p (.o .s) .s)))
  | 26 => (.o .s)
  | 27 => (.o (.p .s (.p (.o .s) (.p (.o (.p .s (.p .s (.p .s (.p .s (.p (.o .s) .s)))))) .s))))
  | 28 => (.o .s)
  | 29 => (.o (.p .s (.p .s (.p (.o (.p .s (.p .s (.p .s (.p .s (.p (.o .s) .s)))))) .s))))
  | 30 => (.o .s)
  | 31 => (.o .s)
  | 32 => (.o (.p .s (.p (.o (.p .s (.p .s (.p .s (.p .s (.p (.o .s) .s)))))) (.p (.o .s) .s))))
  | 33 => (.o (.p .s (.p (.o (.p .s (.p .s (.p .s (.p .s (.p (.o .s) .s)))))) (.p (.o .s) .s))))
  | 34 => (.o (.p .s (.p (.o .s) .s)))
  | 35 => (.p (.o (.p (.o .s) (.p (.o .s) .s))) (.p (.o .s) (.p (.o (.p .s (.p (.o .s) (.p (.o (.p .s (.p .s (.p .s (.p .s (.p (.o .s) .s)))))) .s)))) (.p (.o .s) (.p (.o .s) (.p (.o (.p .s (.p .s (.p (.o (.p .s (.p .s (.p .s (.p .s (.p (.o .s) .s)))))) .s)))) (.p (.o .s) (.p (.o .s) (.p (.o (.p .s (.p (.o (.p .s (.p .s (.p .s (.p .s (.p (.o .s) .s)))))) (.p (.o .s) .s)))) (.p (.o .s) (.p (.o (.p .s (.p (.o (.p .s (.p .s (.p .s (.p .s (.p (.o .s) .s)))))) (.p (.o .s) .s)))) (.p (.o (.p .s (.p (.o .s) .s))) .s))))))))))))
  | 36 => (.p (.o (.p (.o .s) (.p (.o .s) .s))) (.p (.o .s) (.p (.o (.p .s (.p (.o .s) (.p (.o (.p .s (.p .s (.p .s (.p .s (.p (.o .s) .s)))))) .s)))) (.p (.o .s) (.p (.o .s) (.p (.o (.p .s (.p .s (.p (.o (.p .s (.p .s (.p .s (.p .s (.p (.o .s) .s)))))) .s)))) (.p (.o .s) (.p (.o .s) (.p (.o (.p .s (.p (.o (.p .s (.p .s (.p .s (.p .s (.p (.o .s) .s)))))) (.p (.o .s) .s)))) (.p (.o .s) (.p (.o (.p .s (.p (.o (.p .s (.p .s (.p .s (.p .s (.p (.o .s) .s)))))) (.p (.o .s) .s)))) (.p (.o (.p .s (.p (.o .s) .s))) .s))))))))))))
  | 37 => (.o .s)
  | 38 => (.p (.o (.p (.o .s) (.p (.o .s) .s))) (.p (.o .s) (.p (.o .s) (.p (.o .s) (.p (.o .s) .s)))))
  | 39 => (.p (.o (.p (.o .s) (.p (.o .s) .s))) (.p (.o .s) (.p (.o .s) (.p (.o .s) (.p (.o .s) .s)))))
  | 54 => (.p (.o .s) (.p (.o .s) .s))
  | 55 => (.p (.o .s) (.p (.o .s) .s))
  | 61 => (.o (.p .s (.p .s (.p .s (.p .s (.p (.o .s) .s))))))
  | 62 => (.p .s (.p (.o .s) (.p (.o (.p .s (.p .s (.p .s (.p .s (.p (.o .s) .s)))))) .s)))
  | 63 => (.p .s (.p (.o .s) (.p (.o (.p .s (.p .s (.p .s (.p .s (.p (.o .s) .s)))))) .s)))
  | 65 => (.p .s (.p .s (.p (.o (.p .s (.p .s (.p .s (.p .s (.p (.o .s) .s)))))) .s)))
  | 66 => (.p .s (.p .s (.p (.o (.p .s (.p .s (.p .s (.p .s (.p (.o .s) .s)))))) .s)))
  | 69 => (.p .s (.p (.o (.p .s (.p .s (.p .s (.p .s (.p (.o .s) .s)))))) (.p (.o .s) .s)))
  | 70 => (.p .s (.p (.o (.p .s (.p .s (.p .s (.p .s (.p (.o .s) .s)))))) (.p (.o .s) .s)))
  | 71 => (.p .s (.p (.o (.p .s (.p .s (.p .s (.p .s (.p (.o .s) .s)))))) (.p (.o .s) .s)))
  | 72 => (.p .s (.p (.o (.p .s (.p .s (.p .s (.p .s (.p (.o .s) .s)))))) (.p (.o .s) .s)))
  | 73 => (.p .s (.p (.o .s) .s))
  | 74 => (.p .s (.p (.o .s) .s))
  | 93 => (.o (.p .s (.p (.o .s) .s)))
  | 96 => (.p .s (.p (.o .s) .s))
  | 97 => (.p .s (.p (.o .s) .s))
  | 101 => (.p (.o .s) .s)
  | 102 => (.p (.o .s) .s)
  | 106 => (.p (.p (.o (.p (.o .s) (.p (.o .s) .s))) (.p (.o .s) (.p (.o .s) (.p (.o .s) (.p (.o .s) .s))))) .s)
  | 107 => (.p (.p (.o (.p (.o .s) (.p (.o .s) .s))) (.p (.o .s) (.p (.o .s) (.p (.o .s) (.p (.o .s) .s))))) .s)
  | 117 => (.p .s (.p .s (.p .s (.p .s (.p (.o .s) .s)))))
  | 118 => (.p .s (.p .s (.p .s (.p .s (.p (.o .s) .s)))))
  | 154 => (.o (.p .s (.p (.o .s) (.p (.o .s) .s))))
  | 155 => (.p (.p (.o (.p (.o .s) (.p (.o .s) .s))) (.p (.o .s) (.p (.o .s) (.p (.o .s) (.p (.o .s) .s))))) (.p (.o .s) (.p (.o .s) (.p (.o (.p .s (.p (.o .s) (.p (.o .s) .s)))) .s))))
  | 156 => (.p (.p (.o (.p (.o .s) (.p (.o .s) .s))) (.p (.o .s) (.p (.o .s) (.p (.o .s) (.p (.o .s) .s))))) (.p (.o .s) (.p (.o .s) (.p (.o (.p .s (.p (.o .s) (.p (.o .s) .s)))) .s))))
  | 177 => (.o .s)
  | 178 => (.p (.o .s) .s)
  | 179 => (.p (.o .s) .s)
  | 183 => (.o (.o .s))
  | 185 => (.p .s (.p (.o .s) (.p (.o .s) .s)))
  | 186 => (.p .s (.p (.o .s) (.p (.o .s) .s)))
  | 212 => (.p (.o .s) .s)
  | 213 => (.p (.o .s) .s)
  | _ => .s
noncomputable def env_load_Same_2 : Env := { ty := envTy, eq := envEq, gam := gam_load_Same_2, n := Tryz.f24.ntmps, fz := fz_load_Same_2, om := om_load_Same_2 }
theorem gamOk_load_Same_2 : EnvFn Tryz.prog env_load_Same_2 := by
  intro f gs c h
  unfold env_load_Same_2 gam_load_Same_2 at h
  simp only at h
  split at h <;> first | (cases h; done) | (cases h; exact h_slices_EqualInt) | (cases h; exact h_load_instrs)
noncomputable def p_load_Same_2 {R : Type} (a0 : (Int) × It1) (a1 : (Int) × It1) (K : Bool → Option R) : Option R :=
  let v1 := a0.1 == a1.1
  cond v1
  (p_slices_EqualInt a0.2.1 a1.2.1 fun r2 =>
  cond r2
  (p_load_instrs a0.2.2.1 a1.2.2.1 fun r3 =>
  K r3)
  (K false))
  (K false)
noncomputable def cs_load_Same_2 : CSpec := { ins := [(.val (.pair (.int .i64) Ty12) .s), (.val (.pair (.int .i64) Ty12) .s)], outs := [(.bool, .s)], fn := fun (d : ((Int) × It1) × ((Int) × It1) × Unit) K _ => p_load_Same_2 d.1 d.2.1 (fun r0 => K ((r0, ()) : Bool × Unit) ((()) : Unit)) }
theorem h_load_Same_2 : Holds Tryz.prog 24 cs_load_Same_2 := by
  refine holds_of (env := env_load_Same_2) (inl := inl0) (fn := Tryz.f24) (code := body Tryz.f24.body) (rs := [(4, none)]) (lp := lp0) mixed ⟨envTyOk.ty, envTyOk.eq⟩ gamOk_load_Same_2 inl0_ok Tryz.func24 (by kernel_rfl) (by kernel_rfl) (by kernel_rfl) (by kernel_rfl) (by kernel_rfl) (loopsOk_none (by kernel_rfl) (by kernel_rfl)) (by kernel_rfl) ?_
  intro d R K Kp res h
  have : evC env_load_Same_2 lp0 inl0 (body Tryz.f24.body) (St.start cs_load_Same_2.ins d) (retK env_load_Same_2 cs_load_Same_2.ins cs_load_Same_2.outs [(4, none)] cs_load_Same_2.pan K Kp) = cs_load_Same_2.fn d K Kp := by kernel_rfl
  rw [this]; exact h
-- f26 slices.Equal[[]trammel/api.Limits,trammel/api.Limits]
noncomputable def env_slices_Equal_Limits : Env := { ty := envTy, eq := envEq, gam := noG, n := Tryz.f26.ntmps }
structure X_slices_Equal_Limits_4 where
  f0 : List ((Int) × (Bool) × (Int) × Unit)
  f1 : List ((Int) × (Bool) × (Int) × Unit)
  f12 : Int
  f13 : Int

noncomputable def B_slices_Equal_Limits_4 {R : Type} (k_ret : Bool → Option R) (k_exit_0 : Option R) (rec : X_slices_Equal_Limits_4 → Option R) (x : X_slices_Equal_Limits_4) : Option R :=
  let v1 := decide (x.f13 < x.f12)
  cond v1
  (cond (inB x.f13 (List.length x.f0))
  (let v2 := List.getD x.f0 x.f13.toNat ((0 : Int), (false, ((0 : Int), ())))
  cond (inB x.f13 (List.length x.f1))
  (let v3 := List.getD x.f1 x.f13.toNat ((0 : Int), (false, ((0 : Int), ())))
  let v4 := !((v2.1 == v3.1) && ((v2.2.1 == v3.2.1) && ((v2.2.2.1 == v3.2.2.1) && true)))
  cond v4
  (k_ret false)
  (let v5 := IntKind.i64.wrap (x.f13 + (1 : Int))
  rec ⟨x.f0, x.f1, x.f12, v5⟩)) none) none)
  (k_exit_0)
noncomputable def S_slices_Equal_Limits_4 (x : X_slices_Equal_Limits_4) : St := St.ofList [(0, (.v (.sl 58 (.pair (.int .i64) (.pair .bool (.pair (.int .i64) .unit)))) .s x.f0)), (1, (.v (.sl 58 (.pair (.int .i64) (.pair .bool (.pair (.int .i64) .unit)))) .s x.f1)), (12, (.v (.int .i64) .s x.f12)), (13, (.v (.int .i64) .s x.f13))]
def out_slices_Equal_Limits_4 : Ex → List (Nat × Bool) | .ret => [(4, false)] | .exit 0 => [] | _ => []
noncomputable def fuel_slices_Equal_Limits_4 (x : X_slices_Equal_Limits_4) : Nat := fuel64
noncomputable def c_slices_Equal_Limits_4 : Code := match loopAt 4 (body Tryz.f26.body) with | some c => c | none => .skip
noncomputable def lp_slices_Equal_Limits : Loops := fun z i R st K => match z, i with
  | false, 4 => coerce [(0, false), (1, false), (12, false), (13, false)] st (fun st => mV (.sl 58 (.pair (.int .i64) (.pair .bool (.pair (.int .i64) .unit)))) .s (st 0) fun y0 => mV (.sl 58 (.pair (.int .i64) (.pair .bool (.pair (.int .i64) .unit)))) .s (st 1) fun y1 => mV (.int .i64) .s (st 12) fun y12 => mV (.int .i64) .s (st 13) fun y13 => loopN (B_slices_Equal_Limits_4 (fun e4 => K .ret (St.ofList [(4, (.v .bool .s e4))])) (K (.exit 0) (St.ofList []))) (fuel_slices_Equal_Limits_4 ⟨y0, y1, y12, y13⟩) ⟨y0, y1, y12, y13⟩)
  | _, _ => none
theorem step_slices_Equal_Limits_4 (R : Type) (K : Ex → St → Option R) (rec : St → Option R) (x : X_slices_Equal_Limits_4) : evC env_slices_Equal_Limits lp_slices_Equal_Limits inl0 c_slices_Equal_Limits_4 (S_slices_Equal_Limits_4 x) (fun e st => match e with | .normal => coerce [(0, false), (1, false), (12, false), (13, false)] st rec | e => coerce (out_slices_Equal_Limits_4 e) st (K e)) = B_slices_Equal_Limits_4 (fun e4 => K .ret (St.ofList [(4, (.v .bool .s e4))])) (K (.exit 0) (St.ofList [])) (fun x => rec (S_slices_Equal_Limits_4 x)) x := by kernel_rfl
theorem ok_slices_Equal_Limits_4 : LoopOk env_slices_Equal_Limits lp_slices_Equal_Limits inl0 c_slices_Equal_Limits_4 := by
  refine loopOk_of (hd := [(0, false), (1, false), (12, false), (13, false)]) (out := out_slices_Equal_Limits_4) (S := S_slices_Equal_Limits_4) (fun _ K => B_slices_Equal_Limits_4 (fun e4 => K .ret (St.ofList [(4, (.v .bool .s e4))])) (K (.exit 0) (St.ofList []))) fuel_slices_Equal_Limits_4 4 step_slices_Equal_Limits_4 (by kernel_rfl) (fun R K => fun st => mV (.sl 58 (.pair (.int .i64) (.pair .bool (.pair (.int .i64) .unit)))) .s (st 0) fun y0 => mV (.sl 58 (.pair (.int .i64) (.pair .bool (.pair (.int .i64) .unit)))) .s (st 1) fun y1 => mV (.int .i64) .s (st 12) fun y12 => mV (.int .i64) .s (st 13) fun y13 => loopN (B_slices_Equal_Limits_4 (fun e4 => K .ret (St.ofList [(4, (.v .bool .s e4))])) (K (.exit 0) (St.ofList []))) (fuel_slices_Equal_Limits_4 ⟨y0, y1, y12, y13⟩) ⟨y0, y1, y12, y13⟩) (fun R st K => by kernel_rfl) ?_
  intro R K st r h
  obtain ⟨y0, hy0, h⟩ := mV_inv h
  obtain ⟨y1, hy1, h⟩ := mV_inv h
  obtain ⟨y12, hy12, h⟩ := mV_inv h
  obtain ⟨y13, hy13, h⟩ := mV_inv h
  exact ⟨⟨y0, y1, y12, y13⟩, only_of_list (ofList_cons hy0 (ofList_cons hy1 (ofList_cons hy12 (ofList_cons hy13 rfl)))), h⟩
theorem loops_slices_Equal_Limits : LoopsOk env_slices_Equal_Limits lp_slices_Equal_Limits inl0 (body Tryz.f26.body) := by
  refine loopsOk_of (fun c hc => ?_) (fun c hc => ?_)
  · rw [show loopsL (body Tryz.f26.body) = [c_slices_Equal_Limits_4] by kernel_rfl] at hc
    simp only [List.mem_cons, List.not_mem_nil, or_false] at hc
    rcases hc with rfl
    · exact ok_slices_Equal_Limits_4
  · rw [show joinsL env_slices_Equal_Limits (body Tryz.f26.body) = [] by kernel_rfl] at hc; cases hc
noncomputable def p_slices_Equal_Limits {R : Type} (a0 : List ((Int) × (Bool) × (Int) × Unit)) (a1 : List ((Int) × (Bool) × (Int) × Unit)) (K : Bool → Option R) : Option R :=
  let v1 := ((List.length a0 : Nat) : Int)
  let v2 := ((List.length a1 : Nat) : Int)
  let v3 := v1 != v2
  cond v3
  (K false)
  (let v4 := ((List.length a0 : Nat) : Int)
  loopN (B_slices_Equal_Limits_4 (fun w5 =>
  K w5) (K true)) (fuel_slices_Equal_Limits_4 ⟨a0, a1, v4, (0 : Int)⟩) ⟨a0, a1, v4, (0 : Int)⟩)
noncomputable def cs_slices_Equal_Limits : CSpec := { ins := [(.val (.sl 58 (.pair (.int .i64) (.pair .bool (.pair (.int .i64) .unit)))) .s), (.val (.sl 58 (.pair (.int .i64) (.pair .bool (.pair (.int .i64) .unit)))) .s)], outs := [(.bool, .s)], fn := fun (d : (List ((Int) × (Bool) × (Int) × Unit)) × (List ((Int) × (Bool) × (Int) × Unit)) × Unit) K _ => p_slices_Equal_Limits d.1 d.2.1 (fun r0 => K ((r0, ()) : Bool × Unit) ((()) : Unit)) }
theorem h_slices_Equal_Limits : Holds Tryz.prog 26 cs_slices_Equal_Limits := by
  refine holds_of (env := env_slices_Equal_Limits) (inl := inl0) (fn := Tryz.f26) (code := body Tryz.f26.body) (rs := [(4, none)]) (lp := lp_slices_Equal_Limits) mixed ⟨envTyOk.ty, envTyOk.eq⟩ (fun _ _ _ h => by cases h) inl0_ok Tryz.func26 (by kernel_rfl) (by kernel_rfl) (by kernel_rfl) (by kernel_rfl) (by kernel_rfl) loops_slices_Equal_Limits (by kernel_rfl) ?_
  intro d R K Kp res h
  have : evC env_slices_Equal_Limits lp_slices_Equal_Limits inl0 (body Tryz.f26.body) (St.start cs_slices_Equal_Limits.ins d) (retK env_slices_Equal_Limits cs_slices_Equal_Limits.ins cs_slices_Equal_Limits.outs [(4, none)] cs_slices_Equal_Limits.pan K Kp) = cs_slices_Equal_Limits.fn d K Kp := by kernel_rfl
  rw [this]; exact h
-- f28 trammel/load.Same$3
noncomputable def gam_load_Same_3 : FuncId → List FuncId → Option CSpec
  | 25, [] => some cs_load_instrs
  | _, _ => none
noncomputable def fz_load_Same_3 : Nat → Bool
  | 2 => true
  | 3 => true
  | _ => false
noncomputable def om_load_Same_3 : TypeId → Md
  | 22 => (.o .s)
  | 25 => (.o (.p (.o .s) (.p (.o .s) .s)))
  | 26 => (.o .s)
  | 27 => (.o (.p .s (.p (.o .s) (.p (.o (.p .s (.p .s (.p .s (.p .s (.p (.o .s) .s)))))) .s))))
  | 28 => (.o .s)
  | 29 => (.o (.p .s (.p .s (.p (.o (.p .s (.p .s (.p .s (.p .s (.p (.o .s) .s)))))) .s))))
  | 30 => (.o .s)
  | 31 => (.o .s)
  | 32 => (.o (.p .s (.p (.o (.p .s (.p .s (.p .s (.p .s (.p (.o .s) .s)))))) (.p (.o .s) .s))))
  | 33 => (.o (.p .s (.p (.o (.p .s (.p .s (.p .s (.p .s (.p (.o .s) .s)))))) (.p (.o .s) .s))))
  | 34 => (.o (.p .s (.p (.o .s) .s)))
  | 35 => (.p (.o (.p (.o .s) (.p (.o .s) .s))) (.p (.o .s) (.p (.o (.p .s (.p (.o .s) (.p (.o (.p .s (.p .s (.p .s (.p .s (.p (.o .s) .s)))))) .s)))) (.p (.o .s) (.p (.o .s) (.p (.o (.p .s (.p .s (.p (.o (.p .s (.p .s (.p .s (.p .s (.p (.o .s) .s)))))) .s)))) (.p (.o .s) (.p (.o .s) (.p (.o (.p .s (.p (.o (.p .s (.p .s (.p .s (.p .s (.p (.o .s) .s)))))) (.p (.o .s) .s)))) (.p (.o .s) (.p (.o (.p .s (.p (.o (.p .s (.p .s (.p .s (.p .s (.p (.o .s) .s)))))) (.p (.o .s) .s)))) (.p (.o (.p .s (.p (.o .s) .s))) .s))))))))))))
  | 36 => (.p (.o (.p (.o .s) (.p (.o .s) .s))) (.p (.o .s) (.p (.o (.p .s (.p (.o .s) (.p (.o (.p .s (.p .s (.p .s (.p .s (.p (.o .s) .s)))))) .s)))) (.p (.o .s) (.p (.o .s) (.p (.o (.p .s (.p .s (.p (.o (.p .s (.p .s (.p .s (.p .s (.p (.o .s) .s)))))) .s)))) (.p (.o .s) (.p (.o .s) (.p (.o (.p .s (.p (.o (.p .s (.p .s (.p .s (.p .s (.p (.o .s) .s)))))) (.p (.o .s) .s)))) (.p (.o .s) (.p (.o (.p .s (.p (.o (.p .s (.p .s (.p .s (.p .s (.p (.o .s) .s)))))) (.p (.o .s) .s)))) (.p (.o (.p .s (.p (.o .s) .s))) .s))))))))))))
  | 37 => (.o .s)
  | 38 => (.p (.o (.p (.o .s) (.p (.o .s) .s))) (.p (.o .s) (.p (.o .s) (.p (.o .s) (.p (.o .s) .s)))))
  | 39 => (.p (.o (.p (.o .s) (.p (.o .s) .s))) (.p (.o .s) (.p (.o .s) (.p (.o .s) (.p (.o .s) .s)))))
  | 54 => (.p (.o .s) (.p (.o .s) .s))
  | 55 => (.p (.o .s) (.p (.o .s) .s))
  | 61 => (.o (.p .s (.p .s (.p .s (.p .s (.p (.o .s) .s))))))
  | 62 => (.p .s (.p (.o .s) (.p (.o (.p .s (.p .s (.p .s (.p .s (.p (.o .s) .s)))))) .s)))
  | 63 => (.p .s (.p (.o .s) (.p (.o (.p .s (.p .s (.p .s (.p .s (.p (.o .s) .s)))))) .s)))
  | 65 => (.p .s (.p .s (.p (.o (.p .s (.p .s (.p .s (.p .s (.p (.o .s) .s)))))) .s)))
  | 66 => (.p .s (.p .s (.p (.o (.p .s (.p .s (.p .s (.p .s (.p (.o .s) .s)))))) .s)))
  | 69 => (.p .s (.p (.o (.p .s (.p .s (.p .s (.p .s (.p (.o .s) .s)))))) (.p (.o .s) .s)))
  | 70 => (.p .s (.p (.o (.p .s (.p .s (.p .s (.p .s (.p (.o .s) .s)))))) (.p (.o .s) .s)))
  | 71 => (.p .s (.p (.o (.p .s (.p .s (.p .s (.p .s (.p (.o .s) .s)))))) (.p (.o .s) .s)))
  | 72 => (.p .s (.p (.o (.p .s (.p .s (.p .s (.p .s (.p (.o .s) .s)))))) (.p (.o .s) .s)))
  | 73 => (.p .s (.p (.o .s) .s))
  | 74 => (.p .s (.p (.o .s) .s))
  | 93 => (.o (.p .s (.p (.o .s) .s)))
  | 96 => (.p .s (.p (.o .s) .s))
  | 97 => (.p .s (.p (.o .s) .s))
  | 101 => (.p (.o .s) .s)
  | 102 => (.p (.o .s) .s)
  | 106 => (.p (.p (.o (.p (.o .s) (.p (.o .s) .s))) (.p (.o .s) (.p (.o .s) (.p (.o .s) (.p (.o .s) .s))))) .s)
  | 107 => (.p (.p (.o (.p (.o .s) (.p (.o .s) .s))) (.p (.o .s) (.p (.o .s) (.p (.o .s) (.p (.o .s) .s))))) .s)
  | 117 => (.p .s (.p .s (.p .s (.p .s (.p (.o .s) .s)))))
  | 118 => (.p .s (.p .s (.p .s (.p .s (.p (.o .s) .s)))))
  | 154 => (.o (.p .s (.p (.o .s) (.p (.o .s) .s))))
  | 155 => (.p (.p (.o (.p (.o .s) (.p (.o .s) .s))) (.p (.o .s) (.p (.o .s) (.p (.o .s) (.p (.o .s) .s))))) (.p (.o .s) (.p (.o .s) (.p (.o (.p .s (.p (.o .s) (.p (.o .s) .s)))) .s))))
  | 156 => (.p (.p (.o (.p (.o .s) (.p (.o .s) .s))) (.p (.o .s) (.p (.o .s) (.p (.o .s) (.p (.o .s) .s))))) (.p (.o .s) (.p (.o .s) (.p (.o (.p .s (.p (.o .s) (.p (.o .s) .s)))) .s))))
  | 177 => (.o .s)
  | 178 => (.p (.o .s) .s)
  | 179 => (.p (.o .s) .s)
  | 183 => (.o (.o .s))
  | 185 => (.p .s (.p (.o .s) (.p (.o .s) .s)))
  | 186 => (.p .s (.p (.o .s) (.p (.o .s) .s)))
  | 212 => (.p (.o .s) .s)
  | 213 => (.p (.o .s) .s)
  | _ => .s
noncomputable def env_load_Same_3 : Env := { ty := envTy, eq := envEq, gam := gam_load_Same_3, n := Tryz.f28.ntmps, fz := fz_load_Same_3, om := om_load_Same_3 }
theorem gamOk_load_Same_3 : EnvFn Tryz.prog env_load_Same_3 := by
  intro f gs c h
  unfold env_load_Same_3 gam_load_Same_3 at h
  simp only at h
  split at h <;> first | (cases h; done) | (cases h; exact h_load_instrs)
noncomputable def p_load_Same_3 {R : Type} (a0 : (Int) × It2) (a1 : (Int) × It2) (K : Bool → Option R) : Option R :=
  let v1 := a0.1 == a1.1
  cond v1
  (let v2 := a0.2.1 == a1.2.1
  cond v2
  (p_load_instrs a0.2.2.1 a1.2.2.1 fun r3 =>
  K r3)
  (K false))
  (K false)
noncomputable def cs_load_Same_3 : CSpec := { ins := [(.val (.pair (.int .i64) Ty13) .s), (.val (.pair (.int .i64) Ty13) .s)], outs := [(.bool, .s)], fn := fun (d : ((Int) × It2) × ((Int) × It2) × Unit) K _ => p_load_Same_3 d.1 d.2.1 (fun r0 => K ((r0, ()) : Bool × Unit) ((()) : Unit)) }
theorem h_load_Same_3 : Holds Tryz.prog 28 cs_load_Same_3 := by
  refine holds_of (env := env_load_Same_3) (inl := inl0) (fn := Tryz.f28) (code := body Tryz.f28.body) (rs := [(4, none)]) (lp := lp0) mixed ⟨envTyOk.ty, envTyOk.eq⟩ gamOk_load_Same_3 inl0_ok Tryz.func28 (by kernel_rfl) (by kernel_rfl) (by kernel_rfl) (by kernel_rfl) (by kernel_rfl) (loopsOk_none (by kernel_rfl) (by kernel_rfl)) (by kernel_rfl) ?_
  intro d R K Kp res h
  have : evC env_load_Same_3 lp0 inl0 (body Tryz.f28.body) (St.start cs_load_Same_3.ins d) (retK env_load_Same_3 cs_load_Same_3.ins cs_load_Same_3.outs [(4, none)] cs_load_Same_3.pan K Kp) = cs_load_Same_3.fn d K Kp := by kernel_rfl
  rw [this]; exact h
-- f29 slices.Equal[[]trammel/api.Export,trammel/api.Export]
noncomputable def env_slices_Equal_Export : Env := { ty := envTy, eq := envEq, gam := noG, n := Tryz.f29.ntmps }
structure X_slices_Equal_Export_4 where
  f0 : List ((List UInt8) × (Int) × (Int) × Unit)
  f1 : List ((List UInt8) × (Int) × (Int) × Unit)
  f12 : Int
  f13 : Int

noncomputable def B_slices_Equal_Export_4 {R : Type} (k_ret : Bool → Option R) (k_exit_0 : Option R) (rec : X_slices_Equal_Export_4 → Option R) (x : X_slices_Equal_Export_4) : Option R :=
  let v1 := decide (x.f13 < x.f12)
  cond v1
  (cond (inB x.f13 (List.length x.f0))
  (let v2 := List.getD x.f0 x.f13.toNat (([] : List UInt8), ((0 : Int), ((0 : Int), ())))
  cond (inB x.f13 (List.length x.f1))
  (let v3 := List.getD x.f1 x.f13.toNat (([] : List UInt8), ((0 : Int), ((0 : Int), ())))
  let v4 := !((v2.1 == v3.1) && ((v2.2.1 == v3.2.1) && ((v2.2.2.1 == v3.2.2.1) && true)))
  cond v4
  (k_ret false)
  (let v5 := IntKind.i64.wrap (x.f13 + (1 : Int))
  rec ⟨x.f0, x.f1, x.f12, v5⟩)) none) none)
  (k_exit_0)
noncomputable def S_slices_Equal_Export_4 (x : X_slices_Equal_Export_4) : St := St.ofList [(0, (.v (.sl 68 (.pair .str (.pair (.int .i64) (.pair (.int .i64) .unit)))) .s x.f0)), (1, (.v (.sl 68 (.pair .str (.pair (.int .i64) (.pair (.int .i64) .unit)))) .s x.f1)), (12, (.v (.int .i64) .s x.f12)), (13, (.v (.int .i64) .s x.f13))]
def out_slices_Equal_Export_4 : Ex → List (Nat × Bool) | .ret => [(4, false)] | .exit 0 => [] | _ => []
noncomputable def fuel_slices_Equal_Export_4 (x : X_slices_Equal_Export_4) : Nat := fuel64
noncomputable def c_slices_Equal_Export_4 : Code := match loopAt 4 (body Tryz.f29.body) with | some c => c | none => .skip
noncomputable def lp_slices_Equal_Export : Loops := fun z i R st K => match z, i with
  | false, 4 => coerce [(0, false), (1, false), (12, false), (13, false)] st (fun st => mV (.sl 68 (.pair .str (.pair (.int .i64) (.pair (.int .i64) .unit)))) .s (st 0) fun y0 => mV (.sl 68 (.pair .str (.pair (.int .i64) (.pair (.int .i64) .unit)))) .s (st 1) fun y1 => mV (.int .i64) .s (st 12) fun y12 => mV (.int .i64) .s (st 13) fun y13 => loopN (B_slices_Equal_Export_4 (fun e4 => K .ret (St.ofList [(4, (.v .bool .s e4))])) (K (.exit 0) (St.ofList []))) (fuel_slices_Equal_Export_4 ⟨y0, y1, y12, y13⟩) ⟨y0, y1, y12, y13⟩)
  | _, _ => none
theorem step_slices_Equal_Export_4 (R : Type) (K : Ex → St → Option R) (rec : St → Option R) (x : X_slices_Equal_Export_4) : evC env_slices_Equal_Export lp_slices_Equal_Export inl0 c_slices_Equal_Export_4 (S_slices_Equal_Export_4 x) (fun e st => match e with | .normal => coerce [(0, false), (1, false), (12, false), (13, false)] st rec | e => coerce (out_slices_Equal_Export_4 e) st (K e)) = B_slices_Equal_Export_4 (fun e4 => K .ret (St.ofList [(4, (.v .bool .s e4))])) (K (.exit 0) (St.ofList [])) (fun x => rec (S_slices_Equal_Export_4 x)) x := by kernel_rfl
theorem ok_slices_Equal_Export_4 : LoopOk env_slices_Equal_Export lp_slices_Equal_Export inl0 c_slices_Equal_Export_4 := by
  refine loopOk_of (hd := [(0, false), (1, false), (12, false), (13, false)]) (out := out_slices_Equal_Export_4) (S := S_slices_Equal_Export_4) (fun _ K => B_slices_Equal_Export_4 (fun e4 => K .ret (St.ofList [(4, (.v .bool .s e4))])) (K (.exit 0) (St.ofList []))) fuel_slices_Equal_Export_4 4 step_slices_Equal_Export_4 (by kernel_rfl) (fun R K => fun st => mV (.sl 68 (.pair .str (.pair (.int .i64) (.pair (.int .i64) .unit)))) .s (st 0) fun y0 => mV (.sl 68 (.pair .str (.pair (.int .i64) (.pair (.int .i64) .unit)))) .s (st 1) fun y1 => mV (.int .i64) .s (st 12) fun y12 => mV (.int .i64) .s (st 13) fun y13 => loopN (B_slices_Equal_Export_4 (fun e4 => K .ret (St.ofList [(4, (.v .bool .s e4))])) (K (.exit 0) (St.ofList []))) (fuel_slices_Equal_Export_4 ⟨y0, y1, y12, y13⟩) ⟨y0, y1, y12, y13⟩) (fun R st K => by kernel_rfl) ?_
  intro R K st r h
  obtain ⟨y0, hy0, h⟩ := mV_inv h
  obtain ⟨y1, hy1, h⟩ := mV_inv h
  obtain ⟨y12, hy12, h⟩ := mV_inv h
  obtain ⟨y13, hy13, h⟩ := mV_inv h
  exact ⟨⟨y0, y1, y12, y13⟩, only_of_list (ofList_cons hy0 (ofList_cons hy1 (ofList_cons hy12 (ofList_cons hy13 rfl)))), h⟩
theorem loops_slices_Equal_Export : LoopsOk env_slices_Equal_Export lp_slices_Equal_Export inl0 (body Tryz.f29.body) := by
  refine loopsOk_of (fun c hc => ?_) (fun c hc => ?_)
  · rw [show loopsL (body Tryz.f29.body) = [c_slices_Equal_Export_4] by kernel_rfl] at hc
    simp only [List.mem_cons, List.not_mem_nil, or_false] at hc
    rcases hc with rfl
    · exact ok_slices_Equal_Export_4
  · rw [show joinsL env_slices_Equal_Export (body Tryz.f29.body) = [] by kernel_rfl] at hc; cases hc
noncomputable def p_slices_Equal_Export {R : Type} (a0 : List ((List UInt8) × (Int) × (Int) × Unit)) (a1 : List ((List UInt8) × (Int) × (Int) × Unit)) (K : Bool → Option R) : Option R :=
  let v1 := ((List.length a0 : Nat) : Int)
  let v2 := ((List.length a1 : Nat) : Int)
  let v3 := v1 != v2
  cond v3
  (K false)
  (let v4 := ((List.length a0 : Nat) : Int)
  loopN (B_slices_Equal_Export_4 (fun w5 =>
  K w5) (K true)) (fuel_slices_Equal_Export_4 ⟨a0, a1, v4, (0 : Int)⟩) ⟨a0, a1, v4, (0 : Int)⟩)
noncomputable def cs_slices_Equal_Export : CSpec := { ins := [(.val (.sl 68 (.pair .str (.pair (.int .i64) (.pair (.int .i64) .unit)))) .s), (.val (.sl 68 (.pair .str (.pair (.int .i64) (.pair (.int .i64) .unit)))) .s)], outs := [(.bool, .s)], fn := fun (d : (List ((List UInt8) × (Int) × (Int) × Unit)) × (List ((List UInt8) × (Int) × (Int) × Unit)) × Unit) K _ => p_slices_Equal_Export d.1 d.2.1 (fun r0 => K ((r0, ()) : Bool × Unit) ((()) : Unit)) }
theorem h_slices_Equal_Export : Holds Tryz.prog 29 cs_slices_Equal_Export := by
  refine holds_of (env := env_slices_Equal_Export) (inl := inl0) (fn := Tryz.f29) (code := body Tryz.f29.body) (rs := [(4, none)]) (lp := lp_slices_Equal_Export) mixed ⟨envTyOk.ty, envTyOk.eq⟩ (fun _ _ _ h => by cases h) inl0_ok Tryz.func29 (by kernel_rfl) (by kernel_rfl) (by kernel_rfl) (by kernel_rfl) (by kernel_rfl) loops_slices_Equal_Export (by kernel_rfl) ?_
  intro d R K Kp res h
  have : evC env_slices_Equal_Export lp_slices_Equal_Export inl0 (body Tryz.f29.body) (St.start cs_slices_Equal_Export.ins d) (retK env_slices_Equal_Export cs_slices_Equal_Export.ins cs_slices_Equal_Export.outs [(4, none)] cs_slices_Equal_Export.pan K Kp) = cs_slices_Equal_Export.fn d K Kp := by kernel_rfl
  rw [this]; exact h
-- f31 trammel/load.Same$4
noncomputable def gam_load_Same_4 : FuncId → List FuncId → Option CSpec
  | 25, [] => some cs_load_instrs
  | 21, [] => some cs_slices_EqualInt
  | _, _ => none
noncomputable def fz_load_Same_4 : Nat → Bool
  | 2 => true
  | 3 => true
  | _ => false
noncomputable def om_load_Same_4 : TypeId → Md
  | 22 => (.o .s)
  | 25 => (.o (.p (.o .s) (.p (.o .s) .s)))
  | 26 => (.o .s)
  | 27 => (.o (.p .s (.p (.o .s) (.p (.o (.p .s (.p .s (.p .s (.p .s (.p (.o .s) .s)))))) .s))))
  | 28 => (.o .s)
  | 29 => (.o (.p .s (.p .s (.p (.o (.p .s (.p .s (.p .s (.p .s (.p (.o .s) .s)))))) .s))))
  | 30 => (.o .s)
  | 31 => (.o .s)
  | 32 => (.o (.p .s (.p (.o (.p .s (.p .s (.p .s (.p .s (.p (.o .s) .s)))))) (.p (.o .s) .s))))
  | 33 => (.o (.p .s (.p (.o (.p .s (.p .s (.p .s (.p .s (.p (.o .s) .s)))))) (.p (.o .s) .s))))
  | 34 => (.o (.p .s (.p (.o .s) .s)))
  | 35 => (.p (.o (.p (.o .s) (.p (.o .s) .s))) (.p (.o .s) (.p (.o (.p .s (.p (.o .s) (.p (.o (.p .s (.p .s (.p .s (.p .s (.p (.o .s) .s)))))) .s)))) (.p (.o .s) (.p (.o .s) (.p (.o (.p .s (.p .s (.p (.o (.p .s (.p .s (.p .s (.p .s (.p (.o .s) .s)))))) .s)))) (.p (.o .s) (.p (.o .s) (.p (.o (.p .s (.p (.o (.p .s (.p .s (.p .s (.p .s (.p (.o .s) .s)))))) (.p (.o .s) .s)))) (.p (.o .s) (.p (.o (.p .s (.p (.o (.p .s (.p .s (.p .s (.p .s (.p (.o .s) .s)))))) (.p (.o .s) .s)))) (.p (.o (.p .s (.p (.o .s) .s))) .s))))))))))))
  | 36 => (.p (.o (.p (.o .s) (.p (.o .s) .s))) (.p (.o .s) (.p (.o (.p .s (.p (.o .s) (.p (.o (.p .s (.p .s (.p .s (.p .s (.p (.o .s) .s)))))) .s)))) (.p (.o .s) (.p (.o .s) (.p (.o (.p .s (.p .s (.p (.o (.p .s (.p .s (.p .s (.p .s (.p (.o .s) .s)))))) .s)))) (.p (.o .s) (.p (.o .s) (.p (.o (.p .s (.p (.o (.p .s (.p .s (.p .s (.p .s (.p (.o .s) .s)))))) (.p (.o .s) .s)))) (.p (.o .s) (.p (.o (.p .s (.p (.o (.p .s (.p .s (.p .s (.p .s (.p (.o .s) .s)))))) (.p (.o .s) .s)))) (.p (.o (.p .s (.p (.o .s) .s))) .s))))))))))))
  | 37 => (.o .s)
  | 38 => (.p (.o (.p (.o .s) (.p (.o .s) .s))) (.p (.o .s) (.p (.o .s) (.p (.o .s) (.p (.o .s) .s)))))
  | 39 => (.p (.o (.p (.o .s) (.p (.o .s) .s))) (.p (.o .s) (.p (.o .s) (.p (.o .s) (.p (.o .s) .s)))))
  | 54 => (.p (.o .s) (.p (.o .s) .s))
  | 55 => (.p (.o .s) (.p (.o .s) .s))
  | 61 => (.o (.p .s (.p .s (.p .s (.p .s (.p (.o .s) .s))))))
  | 62 => (.p .s (.p (.o .s) (.p (.o (.p .s (.p .s (.p .s (.p .s (.p (.o .s) .s)))))) .s)))
  | 63 => (.p .s (.p (.o .s) (.p (.o (.p .s (.p .s (.p .s (.p .s (.p (.o .s) .s)))))) .s)))
  | 65 => (.p .s (.p .s (.p (.o (.p .s (.p .s (.p .s (.p .s (.p (.o .s) .s)))))) .s)))
  | 66 => (.p .s (.p .s (.p (.o (.p .s (.p .s (.p .s (.p .s (.p (.o .s) .s)))))) .s)))
  | 69 => (.p .s (.p (.o (.p .s (.p .s (.p .s (.p .s (.p (.o .s) .s)))))) (.p (.o .s) .s)))
  | 70 => (.p .s (.p (.o (.p .s (.p .s (.p .s (.p .s (.p (.o .s) .s)))))) (.p (.o .s) .s)))
  | 71 => (.p .s (.p (.o (.p .s (.p .s (.p .s (.p .s (.p (.o .s) .s)))))) (.p (.o .s) .s)))
  | 72 => (.p .s (.p (.o (.p .s (.p .s (.p .s (.p .s (.p (.o .s) .s)))))) (.p (.o .s) .s)))
  | 73 => (.p .s (.p (.o .s) .s))
  | 74 => (.p .s (.p (.o .s) .s))
  | 93 => (.o (.p .s (.p (.o .s) .s)))
  | 96 => (.p .s (.p (.o .s) .s))
  | 97 => (.p .s (.p (.o .s) .s))
  | 101 => (.p (.o .s) .s)
  | 102 => (.p (.o .s) .s)
  | 106 => (.p (.p (.o (.p (.o .s) (.p (.o .s) .s))) (.p (.o .s) (.p (.o .s) (.p (.o .s) (.p (.o .s) .s))))) .s)
  | 107 => (.p (.p (.o (.p (.o .s) (.p (.o .s) .s))) (.p (.o .s) (.p (.o .s) (.p (.o .s) (.p (.o .s) .s))))) .s)
  | 117 => (.p .s (.p .s (.p .s (.p .s (.p (.o .s) .s)))))
  | 118 => (.p .s (.p .s (.p .s (.p .s (.p (.o .s) .s)))))
  | 154 => (.o (.p .s (.p (.o .s) (.p (.o .s) .s))))
  | 155 => (.p (.p (.o (.p (.o .s) (.p (.o .s) .s))) (.p (.o .s) (.p (.o .s) (.p (.o .s) (.p (.o .s) .s))))) (.p (.o .s) (.p (.o .s) (.p (.o (.p .s (.p (.o .s) (.p (.o .s) .s)))) .s))))
  | 156 => (.p (.p (.o (.p (.o .s) (.p (.o .s) .s))) (.p (.o .s) (.p (.o .s) (.p (.o .s) (.p (.o .s) .s))))) (.p (.o .s) (.p (.o .s) (.p (.o (.p .s (.p (.o .s) (.p (.o .s) .s)))) .s))))
  | 177 => (.o .s)
  | 178 => (.p (.o .s) .s)
  | 179 => (.p (.o .s) .s)
  | 183 => (.o (.o .s))
  | 185 => (.p .s (.p (.o .s) (.p (.o .s) .s)))
  | 186 => (.p .s (.p (.o .s) (.p (.o .s) .s)))
  | 212 => (.p (.o .s) .s)
  | 213 => (.p (.o .s) .s)
  | _ => .s
noncomputable def env_load_Same_4 : Env := { ty := envTy, eq := envEq, gam := gam_load_Same_4, n := Tryz.f31.ntmps, fz := fz_load_Same_4, om := om_load_Same_4 }
theorem gamOk_load_Same_4 : EnvFn Tryz.prog env_load_Same_4 := by
  intro f gs c h
  unfold env_load_Same_4 gam_load_Same_4 at h
  simp only at h
  split at h <;> first | (cases h; done) | (cases h; exact h_load_instrs) | (cases h; exact h_slices_EqualInt)
noncomputable def p_load_Same_4 {R : Type} (a0 : (Int) × It3) (a1 : (Int) × It3) (K : Bool → Option R) : Option R :=
  let v1 := a0.1 == a1.1
  cond v1
  (p_load_instrs a0.2.1 a1.2.1 fun r2 =>
  cond r2
  (p_slices_EqualInt a0.2.2.1 a1.2.2.1 fun r3 =>
  K r3)
  (K false))
  (K false)
noncomputable def cs_load_Same_4 : CSpec := { ins := [(.val (.pair (.int .i64) Ty14) .s), (.val (.pair (.int .i64) Ty14) .s)], outs := [(.bool, .s)], fn := fun (d : ((Int) × It3) × ((Int) × It3) × Unit) K _ => p_load_Same_4 d.1 d.2.1 (fun r0 => K ((r0, ()) : Bool × Unit) ((()) : Unit)) }
theorem h_load_Same_4 : Holds Tryz.prog 31 cs_load_Same_4 := by
  refine holds_of (env := env_load_Same_4) (inl := inl0) (fn := Tryz.f31) (code := body Tryz.f31.body) (rs := [(4, none)]) (lp := lp0) mixed ⟨envTyOk.ty, envTyOk.eq⟩ gamOk_load_Same_4 inl0_ok Tryz.func31 (by kernel_rfl) (by kernel_rfl) (by kernel_rfl) (by kernel_rfl) (by kernel_rfl) (loopsOk_none (by kernel_rfl) (by kernel_rfl)) (by kernel_rfl) ?_
  intro d R K Kp res h
  have : evC env_load_Same_4 lp0 inl0 (body Tryz.f31.body) (St.start cs_load_Same_4.ins d) (retK env_load_Same_4 cs_load_Same_4.ins cs_load_Same_4.outs [(4, none)] cs_load_Same_4.pan K Kp) = cs_load_Same_4.fn d K Kp := by kernel_rfl
  rw [this]; exact h
-- f34 bytes.Equal
noncomputable def env_bytes_Equal : Env := { ty := envTy, eq := envEq, gam := noG, n := Tryz.f34.ntmps }
noncomputable def p_bytes_Equal {R : Type} (a0 : List (Int)) (a1 : List (Int)) (K : Bool → Option R) : Option R :=
  let v1 := u8s a0
  let v2 := u8s a1
  let v3 := v1 == v2
  K v3
noncomputable def cs_bytes_Equal : CSpec := { ins := [(.val (.sl 5 (.int .u8)) .s), (.val (.sl 5 (.int .u8)) .s)], outs := [(.bool, .s)], fn := fun (d : (List (Int)) × (List (Int)) × Unit) K _ => p_bytes_Equal d.1 d.2.1 (fun r0 => K ((r0, ()) : Bool × Unit) ((()) : Unit)) }
theorem h_bytes_Equal : Holds Tryz.prog 34 cs_bytes_Equal := by
  refine holds_of (env := env_bytes_Equal) (inl := inl0) (fn := Tryz.f34) (code := body Tryz.f34.body) (rs := [(4, none)]) (lp := lp0) mixed ⟨envTyOk.ty, envTyOk.eq⟩ (fun _ _ _ h => by cases h) inl0_ok Tryz.func34 (by kernel_rfl) (by kernel_rfl) (by kernel_rfl) (by kernel_rfl) (by kernel_rfl) (loopsOk_none (by kernel_rfl) (by kernel_rfl)) (by kernel_rfl) ?_
  intro d R K Kp res h
  have : evC env_bytes_Equal lp0 inl0 (body Tryz.f34.body) (St.start cs_bytes_Equal.ins d) (retK env_bytes_Equal cs_bytes_Equal.ins cs_bytes_Equal.outs [(4, none)] cs_bytes_Equal.pan K Kp) = cs_bytes_Equal.fn d K Kp := by kernel_rfl
  rw [this]; exact h
-- f33 trammel/load.Same$5
noncomputable def gam_load_Same_5 : FuncId → List FuncId → Option CSpec
  | 25, [] => some cs_load_instrs
  | 34, [] => some cs_bytes_Equal
  | _, _ => none
noncomputable def fz_load_Same_5 : Nat → Bool
  | 2 => true
  | 3 => true
  | _ => false
noncomputable def om_load_Same_5 : TypeId → Md
  | 22 => (.o .s)
  | 25 => (.o (.p (.o .s) (.p (.o .s) .s)))
  | 26 => (.o .s)
  | 27 => (.o (.p .s (.p (.o .s) (.p (.o (.p .s (.p .s (.p .s (.p .s (.p (.o .s) .s)))))) .s))))
  | 28 => (.o .s)
  | 29 => (.o (.p .s (.p .s (.p (.o (.p .s (.p .s (.p .s (.p .s (.p (.o .s) .s)))))) .s))))
  | 30 => (.o .s)
  | 31 => (.o .s)
  | 32 => (.o (.p .s (.p (.o (.p .s (.p .s (.p .s (.p .s (.p (.o .s) .s)))))) (.p (.o .s) .s))))
  | 33 => (.o (.p .s (.p (.o (.p .s (.p .s (.p .s (.p .s (.p (.o .s) .s)))))) (.p (.o .s) .s))))
  | 34 => (.o (.p .s (.p (.o .s) .s)))
  | 35 => (.p (.o (.p (.o .s) (.p (.o .s) .s))) (.p (.o .s) (.p (.o (.p .s (.p (.o .s) (.p (.o (.p .s (.p .s (.p .s (.p .s (.p (.o .s) .s)))))) .s)))) (.p (.o .s) (.p (.o .s) (.p (.o (.p .s (.p .s (.p (.o (.p .s (.p .s (.p .s (.p .s (.p (.o .s) .s)))))) .s)))) (.p (.o .s) (.p (.o .s) (.p (.o (.p .s (.p (.o (.p .s (.p .s (.p .s (.p .s (.p (.o .s) .s)))))) (.p (.o .s) .s)))) (.p (.o .s) (.p (.o (.p .s (.p (.o (.p .s (.p .s (.p .s (.p .s (.p (.o .s) .s)))))) (.p (.o .s) .s)))) (.p (.o (.p .s (.p (.o .s) .s))) .s))))))))))))
  | 36 => (.p (.o (.p (.o .s) (.p (.o .s) .s))) (.p (.o .s) (.p (.o (.p .s (.p (.o .s) (.p (.o (.p .s (.p .s (.p .s (.p .s (.p (.o .s) .s)))))) .s)))) (.p (.o .s) (.p (.o .s) (.p (.o (.p .s (.p .s (.p (.o (.p .s (.p .s (.p .s (.p .s (.p (.o .s) .s)))))) .s)))) (.p (.o .s) (.p (.o .s) (.p (.o (.p .s (.p (.o (.p .s (.p .s (.p .s (.p .s (.p (.o .s) .s)))))) (.p (.o .s) .s)))) (.p (.o .s) (.p (.o (.p .s (.p (.o (.p .s (.p .s (.p .s (.p .s (.p (.o .s) .s)))))) (.p (.o .s) .s)))) (.p (.o (.p .s (.p (.o .s) .s))) .s))))))))))))
  | 37 => (.o .s)
  | 38 => (.p (.o (.p (.o .s) (.p (.o .s) .s))) (.p (.o .s) (.p (.o .s) (.p (.o .s) (.p (.o .s) .s)))))
  | 39 => (.p (.o (.p (.o .s) (.p (.o .s) .s))) (.p (.o .s) (.p (.o .s) (.p (.o .s) (.p (.o .s) .s)))))
  | 54 => (.p (.o .s) (.p (.o .s) .s))
  | 55 => (.p (.o .s) (.p (.o .s) .s))
  | 61 => (.o (.p .s (.p .s (.p .s (.p .s (.p (.o .s) .s))))))
  | 62 => (.p .s (.p (.o .s) (.p (.o (.p .s (.p .s (.p .s (.p .s (.p (.o .s) .s)))))) .s)))
  | 63 => (.p .s (.p (.o .s) (.p (.o (.p .s (.p .s (.p .s (.p .s (.p (.o .s) .s)))))) .s)))
  | 65 => (.p .s (.p .s (.p (.o (.p .s (.p .s (.p .s (.p .s (.p (.o .s) .s)))))) .s)))
  | 66 => (.p .s (.p .s (.p (.o (.p .s (.p .s (.p .s (.p .s (.p (.o .s) .s)))))) .s)))
  | 69 => (.p .s (.p (.o (.p .s (.p .s (.p .s (.p .s (.p (.o .s) .s)))))) (.p (.o .s) .s)))
  | 70 => (.p .s (.p (.o (.p .s (.p .s (.p .s (.p .s (.p (.o .s) .s)))))) (.p (.o .s) .s)))
  | 71 => (.p .s (.p (.o (.p .s (.p .s (.p .s (.p .s (.p (.o .s) .s)))))) (.p (.o .s) .s)))
  | 72 => (.p .s (.p (.o (.p .s (.p .s (.p .s (.p .s (.p (.o .s) .s)))))) (.p (.o .s) .s)))
  | 73 => (.p .s (.p (.o .s) .s))
  | 74 => (.p .s (.p (.o .s) .s))
  | 93 => (.o (.p .s (.p (.o .s) .s)))
  | 96 => (.p .s (.p (.o .s) .s))
  | 97 => (.p .s (.p (.o .s) .s))
  | 101 => (.p (.o .s) .s)
  | 102 => (.p (.o .s) .s)
  | 106 => (.p (.p (.o (.p (.o .s) (.p (.o .s) .s))) (.p (.o .s) (.p (.o .s) (.p (.o .s) (.p (.o .s) .s))))) .s)
  | 107 => (.p (.p (.o (.p (.o .s) (.p (.o .s) .s))) (.p (.o .s) (.p (.o .s) (.p (.o .s) (.p (.o .s) .s))))) .s)
  | 117 => (.p .s (.p .s (.p .s (.p .s (.p (.o .s) .s)))))
  | 118 => (.p .s (.p .s (.p .s (.p .s (.p (.o .s) .s)))))
  | 154 => (.o (.p .s (.p (.o .s) (.p (.o .s) .s))))
  | 155 => (.p (.p (.o (.p (.o .s) (.p (.o .s) .s))) (.p (.o .s) (.p (.o .s) (.p (.o .s) (.p (.o .s) .s))))) (.p (.o .s) (.p (.o .s) (.p (.o (.p .s (.p (.o .s) (.p (.o .s) .s)))) .s))))
  | 156 => (.p (.p (.o (.p (.o .s) (.p (.o .s) .s))) (.p (.o .s) (.p (.o .s) (.p (.o .s) (.p (.o .s) .s))))) (.p (.o .s) (.p (.o .s) (.p (.o (.p .s (.p (.o .s) (.p (.o .s) .s)))) .s))))
  | 177 => (.o .s)
  | 178 => (.p (.o .s) .s)
  | 179 => (.p (.o .s) .s)
  | 183 => (.o (.o .s))
  | 185 => (.p .s (.p (.o .s) (.p (.o .s) .s)))
  | 186 => (.p .s (.p (.o .s) (.p (.o .s) .s)))
  | 212 => (.p (.o .s) .s)
  | 213 => (.p (.o .s) .s)
  | _ => .s
noncomputable def env_load_Same_5 : Env := { ty := envTy, eq := envEq, gam := gam_load_Same_5, n := Tryz.f33.ntmps, fz := fz_load_Same_5, om := om_load_Same_5 }
theorem gamOk_load_Same_5 : EnvFn Tryz.prog env_load_Same_5 := by
  intro f gs c h
  unfold env_load_Same_5 gam_load_Same_5 at h
  simp only at h
  split at h <;> first | (cases h; done) | (cases h; exact h_load_instrs) | (cases h; exact h_bytes_Equal)
noncomputable def p_load_Same_5 {R : Type} (a0 : (Int) × It3) (a1 : (Int) × It3) (K : Bool → Option R) : Option R :=
  let v1 := a0.1 == a1.1
  cond v1
  (p_load_instrs a0.2.1 a1.2.1 fun r2 =>
  cond r2
  (p_bytes_Equal a0.2.2.1 a1.2.2.1 fun r3 =>
  K r3)
  (K false))
  (K false)
noncomputable def cs_load_Same_5 : CSpec := { ins := [(.val (.pair (.int .i64) Ty15) .s), (.val (.pair (.int .i64) Ty15) .s)], outs := [(.bool, .s)], fn := fun (d : ((Int) × It3) × ((Int) × It3) × Unit) K _ => p_load_Same_5 d.1 d.2.1 (fun r0 => K ((r0, ()) : Bool × Unit) ((()) : Unit)) }
theorem h_load_Same_5 : Holds Tryz.prog 33 cs_load_Same_5 := by
  refine holds_of (env := env_load_Same_5) (inl := inl0) (fn := Tryz.f33) (code := body Tryz.f33.body) (rs := [(4, none)]) (lp := lp0) mixed ⟨envTyOk.ty, envTyOk.eq⟩ gamOk_load_Same_5 inl0_ok Tryz.func33 (by kernel_rfl) (by kernel_rfl) (by kernel_rfl) (by kernel_rfl) (by kernel_rfl) (loopsOk_none (by kernel_rfl) (by kernel_rfl)) (by kernel_rfl) ?_
  intro d R K Kp res h
  have : evC env_load_Same_5 lp0 inl0 (body Tryz.f33.body) (St.start cs_load_Same_5.ins d) (retK env_load_Same_5 cs_load_Same_5.ins cs_load_Same_5.outs [(4, none)] cs_load_Same_5.pan K Kp) = cs_load_Same_5.fn d K Kp := by kernel_rfl
  rw [this]; exact h
-- f36 trammel/load.Same$6
noncomputable def gam_load_Same_6 : FuncId → List FuncId → Option CSpec
  | 34, [] => some cs_bytes_Equal
  | _, _ => none
noncomputable def fz_load_Same_6 : Nat → Bool
  | 2 => true
  | 3 => true
  | _ => false
noncomputable def om_load_Same_6 : TypeId → Md
  | 22 => (.o .s)
  | 25 => (.o (.p (.o .s) (.p (.o .s) .s)))
  | 26 => (.o .s)
  | 27 => (.o (.p .s (.p (.o .s) (.p (.o (.p .s (.p .s (.p .s (.p .s (.p (.o .s) .s)))))) .s))))
  | 28 => (.o .s)
  | 29 => (.o (.p .s (.p .s (.p (.o (.p .s (.p .s (.p .s (.p .s (.p (.o .s) .s)))))) .s))))
  | 30 => (.o .s)
  | 31 => (.o .s)
  | 32 => (.o (.p .s (.p (.o (.p .s (.p .s (.p .s (.p .s (.p (.o .s) .s)))))) (.p (.o .s) .s))))
  | 33 => (.o (.p .s (.p (.o (.p .s (.p .s (.p .s (.p .s (.p (.o .s) .s)))))) (.p (.o .s) .s))))
  | 34 => (.o (.p .s (.p (.o .s) .s)))
  | 35 => (.p (.o (.p (.o .s) (.p (.o .s) .s))) (.p (.o .s) (.p (.o (.p .s (.p (.o .s) (.p (.o (.p .s (.p .s (.p .s (.p .s (.p (.o .s) .s)))))) .s)))) (.p (.o .s) (.p (.o .s) (.p (.o (.p .s (.p .s (.p (.o (.p .s (.p .s (.p .s (.p .s (.p (.o .s) .s)))))) .s)))) (.p (.o .s) (.p (.o .s) (.p (.o (.p .s (.p (.o (.p .s (.p .s (.p .s (.p .s (.p (.o .s) .s)))))) (.p (.o .s) .s)))) (.p (.o .s) (.p (.o (.p .s (.p (.o (.p .s (.p .s (.p .s (.p .s (.p (.o .s) .s)))))) (.p (.o .s) .s)))) (.p (.o (.p .s (.p (.o .s) .s))) .s))))))))))))
  | 36 => (.p (.o (.p (.o .s) (.p (.o .s) .s))) (.p (.o .s) (.p (.o (.p .s (.p (.o .s) (.p (.o (.p .s (.p .s (.p .s (.p .s (.p (.o .s) .s)))))) .s)))) (.p (.o .s) (.p (.o .s) (.p (.o (.p .s (.p .s (.p (.o (.p .s (.p .s (.p .s (.p .s (.p (.o .s) .s)))))) .s)))) (.p (.o .s) (.p (.o .s) (.p (.o (.p .s (.p (.o (.p .s (.p .s (.p .s (.p .s (.p (.o .s) .s)))))) (.p (.o .s) .s)))) (.p (.o .s) (.p (.o (.p .s (.p (.o (.p .s (.p .s (.p .s (.p .s (.p (.o .s) .s)))))) (.p (.o .s) .s)))) (.p (.o (.p .s (.p (.o .s) .s))) .s))))))))))))
  | 37 => (.o .s)
  | 38 => (.p (.o (.p (.o .s) (.p (.o .s) .s))) (.p (.o .s) (.p (.o .s) (.p (.o .s) (.p (.o .s) .s)))))
  | 39 => (.p (.o (.p (.o .s) (.p (.o .s) .s))) (.p (.o .s) (.p (.o .s) (.p (.o .s) (.p (.o .s) .s)))))
  | 54 => (.p (.o .s) (.p (.o .s) .s))
  | 55 => (.p (.o .s) (.p (.o .s) .s))
  | 61 => (.o (.p .s (.p .s (.p .s (.p .s (.p (.o .s) .s))))))
  | 62 => (.p .s (.p (.o .s) (.p (.o (.p .s (.p .s (.p .s (.p .s (.p (.o .s) .s)))))) .s)))
  | 63 => (.p .s (.p (.o .s) (.p (.o (.p .s (.p .s (.p .s (.p .s (.p (.o .s) .s)))))) .s)))
  | 65 => (.p .s (.p .s (.p (.o (.p .s (.p .s (.p .s (.p .s (.p (.o .s) .s)))))) .s)))
  | 66 => (.p .s (.p .s (.p (.o (.p .s (.p .s (.p .s (.p .s (.p (.o .s) .s)))))) .s)))
  | 69 => (.p .s (.p (.o (.p .s (.p .s (.p .s (.p .s (.p (.o .s) .s)))))) (.p (.o .s) .s)))
  | 70 => (.p .s (.p (.o (.p .s (.p .s (.p .s (.p .s (.p (.o .s) .s)))))) (.p (.o .s) .s)))
  | 71 => (.p .s (.p (.o (.p .s (.p .s (.p .s (.p .s (.p (.o .s) .s)))))) (.p (.o .s) .s)))
  | 72 => (.p .s (.p (.o (.p .s (.p .s (.p .s (.p .s (.p (.o .s) .s)))))) (.p (.o .s) .s)))
  | 73 => (.p .s (.p (.o .s) .s))
  | 74 => (.p .s (.p (.o .s) .s))
  | 93 => (.o (.p .s (.p (.o .s) .s)))
  | 96 => (.p .s (.p (.o .s) .s))
  | 97 => (.p .s (.p (.o .s) .s))
  | 101 => (.p (.o .s) .s)
  | 102 => (.p (.o .s) .s)
  | 106 => (.p (.p (.o (.p (.o .s) (.p (.o .s) .s))) (.p (.o .s) (.p (.o .s) (.p (.o .s) (.p (.o .s) .s))))) .s)
  | 107 => (.p (.p (.o (.p (.o .s) (.p (.o .s) .s))) (.p (.o .s) (.p (.o .s) (.p (.o .s) (.p (.o .s) .s))))) .s)
  | 117 => (.p .s (.p .s (.p .s (.p .s (.p (.o .s) .s)))))
  | 118 => (.p .s (.p .s (.p .s (.p .s (.p (.o .s) .s)))))
  | 154 => (.o (.p .s (.p (.o .s) (.p (.o .s) .s))))
  | 155 => (.p (.p (.o (.p (.o .s) (.p (.o .s) .s))) (.p (.o .s) (.p (.o .s) (.p (.o .s) (.p (.o .s) .s))))) (.p (.o .s) (.p (.o .s) (.p (.o (.p .s (.p (.o .s) (.p (.o .s) .s)))) .s))))
  | 156 => (.p (.p (.o (.p (.o .s) (.p (.o .s) .s))) (.p (.o .s) (.p (.o .s) (.p (.o .s) (.p (.o .s) .s))))) (.p (.o .s) (.p (.o .s) (.p (.o (.p .s (.p (.o .s) (.p (.o .s) .s)))) .s))))
  | 177 => (.o .s)
  | 178 => (.p (.o .s) .s)
  | 179 => (.p (.o .s) .s)
  | 183 => (.o (.o .s))
  | 185 => (.p .s (.p (.o .s) (.p (.o .s) .s)))
  | 186 => (.p .s (.p (.o .s) (.p (.o .s) .s)))
  | 212 => (.p (.o .s) .s)
  | 213 => (.p (.o .s) .s)
  | _ => .s
noncomputable def env_load_Same_6 : Env := { ty := envTy, eq := envEq, gam := gam_load_Same_6, n := Tryz.f36.ntmps, fz := fz_load_Same_6, om := om_load_Same_6 }
theorem gamOk_load_Same_6 : EnvFn Tryz.prog env_load_Same_6 := by
  intro f gs c h
  unfold env_load_Same_6 gam_load_Same_6 at h
  simp only at h
  split at h <;> first | (cases h; done) | (cases h; exact h_bytes_Equal)
noncomputable def p_load_Same_6 {R : Type} (a0 : (List UInt8) × (List (Int)) × Unit) (a1 : (List UInt8) × (List (Int)) × Unit) (K : Bool → Option R) : Option R :=
  let v1 := a0.1 == a1.1
  cond v1
  (p_bytes_Equal a0.2.1 a1.2.1 fun r2 =>
  K r2)
  (K false)
noncomputable def cs_load_Same_6 : CSpec := { ins := [(.val (.pair .str (.pair (.sl 5 (.int .u8)) .unit)) .s), (.val (.pair .str (.pair (.sl 5 (.int .u8)) .unit)) .s)], outs := [(.bool, .s)], fn := fun (d : ((List UInt8) × (List (Int)) × Unit) × ((List UInt8) × (List (Int)) × Unit) × Unit) K _ => p_load_Same_6 d.1 d.2.1 (fun r0 => K ((r0, ()) : Bool × Unit) ((()) : Unit)) }
theorem h_load_Same_6 : Holds Tryz.prog 36 cs_load_Same_6 := by
  refine holds_of (env := env_load_Same_6) (inl := inl0) (fn := Tryz.f36) (code := body Tryz.f36.body) (rs := [(4, none)]) (lp := lp0) mixed ⟨envTyOk.ty, envTyOk.eq⟩ gamOk_load_Same_6 inl0_ok Tryz.func36 (by kernel_rfl) (by kernel_rfl) (by kernel_rfl) (by kernel_rfl) (by kernel_rfl) (loopsOk_none (by kernel_rfl) (by kernel_rfl)) (by kernel_rfl) ?_
  intro d R K Kp res h
  have : evC env_load_Same_6 lp0 inl0 (body Tryz.f36.body) (St.start cs_load_Same_6.ins d) (retK env_load_Same_6 cs_load_Same_6.ins cs_load_Same_6.outs [(4, none)] cs_load_Same_6.pan K Kp) = cs_load_Same_6.fn d K Kp := by kernel_rfl
  rw [this]; exact h
-- f19 slices.EqualFunc[[]trammel/api.FuncType,[]trammel/api.FuncType,trammel/api.FuncType,trammel/api.FuncType]
noncomputable def gam_slices_EqualFunc_FuncTypeg20 : FuncId → List FuncId → Option CSpec
  | 20, [] => some cs_load_Same_1
  | _, _ => none
noncomputable def fs_slices_EqualFunc_FuncTypeg20 : Nat → Bool
  | 8 => true
  | 9 => true
  | _ => false
noncomputable def env_slices_EqualFunc_FuncTypeg20 : Env := { ty := envTy, eq := envEq, gam := gam_slices_EqualFunc_FuncTypeg20, n := Tryz.f19.ntmps, fs := fs_slices_EqualFunc_FuncTypeg20 }
theorem gamOk_slices_EqualFunc_FuncTypeg20 : EnvFn Tryz.prog env_slices_EqualFunc_FuncTypeg20 := by
  intro f gs c h
  unfold env_slices_EqualFunc_FuncTypeg20 gam_slices_EqualFunc_FuncTypeg20 at h
  simp only at h
  split at h <;> first | (cases h; done) | (cases h; exact h_load_Same_1)
structure X_slices_EqualFunc_FuncTypeg20_4 where
  f1 : List ((List (Int)) × (List (Int)) × Unit)
  f15 : List ((List (Int)) × (List (Int)) × Unit)
  f16 : Int
  f17 : Int

noncomputable def B_slices_EqualFunc_FuncTypeg20_4 {R : Type} (k_ret : Bool → Option R) (k_exit_0 : Option R) (rec : X_slices_EqualFunc_FuncTypeg20_4 → Option R) (x : X_slices_EqualFunc_FuncTypeg20_4) : Option R :=
  let v1 := decide (x.f17 < x.f16)
  cond v1
  (cond (inB x.f17 (List.length x.f15))
  (let v2 := List.getD x.f15 x.f17.toNat (([] : List (Int)), (([] : List (Int)), ()))
  cond (inB x.f17 (List.length x.f1))
  (let v3 := List.getD x.f1 x.f17.toNat (([] : List (Int)), (([] : List (Int)), ()))
  p_load_Same_1 v2 v3 fun r4 =>
  let v5 := !r4
  cond v5
  (k_ret false)
  (let v6 := IntKind.i64.wrap (x.f17 + (1 : Int))
  rec ⟨x.f1, x.f15, x.f16, v6⟩)) none) none)
  (k_exit_0)
noncomputable def S_slices_EqualFunc_FuncTypeg20_4 (x : X_slices_EqualFunc_FuncTypeg20_4) : St := St.ofList [(1, (.v Ty8 .s x.f1)), (2, (.fn 20 [] [])), (15, (.v Ty8 .s x.f15)), (16, (.v (.int .i64) .s x.f16)), (17, (.v (.int .i64) .s x.f17))]
def out_slices_EqualFunc_FuncTypeg20_4 : Ex → List (Nat × Bool) | .ret => [(6, false)] | .exit 0 => [] | _ => []
noncomputable def fuel_slices_EqualFunc_FuncTypeg20_4 (x : X_slices_EqualFunc_FuncTypeg20_4) : Nat := fuel64
noncomputable def c_slices_EqualFunc_FuncTypeg20_4 : Code := match loopAt 4 (body Tryz.f19.body) with | some c => c | none => .skip
noncomputable def lp_slices_EqualFunc_FuncTypeg20 : Loops := fun z i R st K => match z, i with
  | false, 4 => coerce [(1, false), (2, false), (15, false), (16, false), (17, false)] st (fun st => mV Ty8 .s (st 1) fun y1 => mFn 20 [] [] (st 2) (mV Ty8 .s (st 15) fun y15 => mV (.int .i64) .s (st 16) fun y16 => mV (.int .i64) .s (st 17) fun y17 => loopN (B_slices_EqualFunc_FuncTypeg20_4 (fun e6 => K .ret (St.ofList [(6, (.v .bool .s e6))])) (K (.exit 0) (St.ofList []))) (fuel_slices_EqualFunc_FuncTypeg20_4 ⟨y1, y15, y16, y17⟩) ⟨y1, y15, y16, y17⟩))
  | _, _ => none
theorem step_slices_EqualFunc_FuncTypeg20_4 (R : Type) (K : Ex → St → Option R) (rec : St → Option R) (x : X_slices_EqualFunc_FuncTypeg20_4) : evC env_slices_EqualFunc_FuncTypeg20 lp_slices_EqualFunc_FuncTypeg20 inl0 c_slices_EqualFunc_FuncTypeg20_4 (S_slices_EqualFunc_FuncTypeg20_4 x) (fun e st => match e with | .normal => coerce [(1, false), (2, false), (15, false), (16, false), (17, false)] st rec | e => coerce (out_slices_EqualFunc_FuncTypeg20_4 e) st (K e)) = B_slices_EqualFunc_FuncTypeg20_4 (fun e6 => K .ret (St.ofList [(6, (.v .bool .s e6))])) (K (.exit 0) (St.ofList [])) (fun x => rec (S_slices_EqualFunc_FuncTypeg20_4 x)) x := by kernel_rfl
theorem ok_slices_EqualFunc_FuncTypeg20_4 : LoopOk env_slices_EqualFunc_FuncTypeg20 lp_slices_EqualFunc_FuncTypeg20 inl0 c_slices_EqualFunc_FuncTypeg20_4 := by
  refine loopOk_of (hd := [(1, false), (2, false), (15, false), (16, false), (17, false)]) (out := out_slices_EqualFunc_FuncTypeg20_4) (S := S_slices_EqualFunc_FuncTypeg20_4) (fun _ K => B_slices_EqualFunc_FuncTypeg20_4 (fun e6 => K .ret (St.ofList [(6, (.v .bool .s e6))])) (K (.exit 0) (St.ofList []))) fuel_slices_EqualFunc_FuncTypeg20_4 4 step_slices_EqualFunc_FuncTypeg20_4 (by kernel_rfl) (fun R K => fun st => mV Ty8 .s (st 1) fun y1 => mFn 20 [] [] (st 2) (mV Ty8 .s (st 15) fun y15 => mV (.int .i64) .s (st 16) fun y16 => mV (.int .i64) .s (st 17) fun y17 => loopN (B_slices_EqualFunc_FuncTypeg20_4 (fun e6 => K .ret (St.ofList [(6, (.v .bool .s e6))])) (K (.exit 0) (St.ofList []))) (fuel_slices_EqualFunc_FuncTypeg20_4 ⟨y1, y15, y16, y17⟩) ⟨y1, y15, y16, y17⟩)) (fun R st K => by kernel_rfl) ?_
  intro R K st r h
  obtain ⟨y1, hy1, h⟩ := mV_inv h
  obtain ⟨hy2, h⟩ := mFn_inv h
  obtain ⟨y15, hy15, h⟩ := mV_inv h
  obtain ⟨y16, hy16, h⟩ := mV_inv h
  obtain ⟨y17, hy17, h⟩ := mV_inv h
  exact ⟨⟨y1, y15, y16, y17⟩, only_of_list (ofList_cons hy1 (ofList_cons hy2 (ofList_cons hy15 (ofList_cons hy16 (ofList_cons hy17 rfl))))), h⟩
theorem loops_slices_EqualFunc_FuncTypeg20 : LoopsOk env_slices_EqualFunc_FuncTypeg20 lp_slices_EqualFunc_FuncTypeg20 inl0 (body Tryz.f19.body) := by
  refine loopsOk_of (fun c hc => ?_) (fun c hc => ?_)
  · rw [show loopsL (body Tryz.f19.body) = [c_slices_EqualFunc_FuncTypeg20_4] by kernel_rfl] at hc
    simp only [List.mem_cons, List.not_mem_nil, or_false] at hc
    rcases hc with rfl
    · exact ok_slices_EqualFunc_FuncTypeg20_4
  · rw [show joinsL env_slices_EqualFunc_FuncTypeg20 (body Tryz.f19.body) = [] by kernel_rfl] at hc; cases hc
noncomputable def p_slices_EqualFunc_FuncTypeg20 {R : Type} (a0 : List ((List (Int)) × (List (Int)) × Unit)) (a1 : List ((List (Int)) × (List (Int)) × Unit)) (K : Bool → Option R) : Option R :=
  let v1 := ((List.length a0 : Nat) : Int)
  let v2 := ((List.length a1 : Nat) : Int)
  let v3 := v1 != v2
  cond v3
  (K false)
  (let v4 := ((List.length a0 : Nat) : Int)
  loopN (B_slices_EqualFunc_FuncTypeg20_4 (fun w5 =>
  K w5) (K true)) (fuel_slices_EqualFunc_FuncTypeg20_4 ⟨a1, a0, v4, (0 : Int)⟩) ⟨a1, a0, v4, (0 : Int)⟩)
noncomputable def cs_slices_EqualFunc_FuncTypeg20 : CSpec := { ins := [(.val Ty8 .s), (.val Ty8 .s), (.fn 20)], outs := [(.bool, .s)], fn := fun (d : (List ((List (Int)) × (List (Int)) × Unit)) × (List ((List (Int)) × (List (Int)) × Unit)) × Unit × Unit) K _ => p_slices_EqualFunc_FuncTypeg20 d.1 d.2.1 (fun r0 => K ((r0, ()) : Bool × Unit) ((()) : Unit)) }
theorem h_slices_EqualFunc_FuncTypeg20 : Holds Tryz.prog 19 cs_slices_EqualFunc_FuncTypeg20 := by
  refine holds_of (env := env_slices_EqualFunc_FuncTypeg20) (inl := inl0) (fn := Tryz.f19) (code := body Tryz.f19.body) (rs := [(6, none)]) (lp := lp_slices_EqualFunc_FuncTypeg20) mixed ⟨envTyOk.ty, envTyOk.eq⟩ gamOk_slices_EqualFunc_FuncTypeg20 inl0_ok Tryz.func19 (by kernel_rfl) (by kernel_rfl) (by kernel_rfl) (by kernel_rfl) (by kernel_rfl) loops_slices_EqualFunc_FuncTypeg20 (by kernel_rfl) ?_
  intro d R K Kp res h
  have : evC env_slices_EqualFunc_FuncTypeg20 lp_slices_EqualFunc_FuncTypeg20 inl0 (body Tryz.f19.body) (St.start cs_slices_EqualFunc_FuncTypeg20.ins d) (retK env_slices_EqualFunc_FuncTypeg20 cs_slices_EqualFunc_FuncTypeg20.ins cs_slices_EqualFunc_FuncTypeg20.outs [(6, none)] cs_slices_EqualFunc_FuncTypeg20.pan K Kp) = cs_slices_EqualFunc_FuncTypeg20.fn d K Kp := by kernel_rfl
  rw [this]; exact h
-- f23 slices.EqualFunc[[]trammel/api.Func,[]trammel/api.Func,trammel/api.Func,trammel/api.Func]
noncomputable def gam_slices_EqualFunc_Funcg24 : FuncId → List FuncId → Option CSpec
  | 24, [] => some cs_load_Same_2
  | _, _ => none
noncomputable def fs_slices_EqualFunc_Funcg24 : Nat → Bool
  | 8 => true
  | 9 => true
  | _ => false
noncomputable def env_slices_EqualFunc_Funcg24 : Env := { ty := envTy, eq := envEq, gam := gam_slices_EqualFunc_Funcg24, n := Tryz.f23.ntmps, fs := fs_slices_EqualFunc_Funcg24 }
theorem gamOk_slices_EqualFunc_Funcg24 : EnvFn Tryz.prog env_slices_EqualFunc_Funcg24 := by
  intro f gs c h
  unfold env_slices_EqualFunc_Funcg24 gam_slices_EqualFunc_Funcg24 at h
  simp only at h
  split at h <;> first | (cases h; done) | (cases h; exact h_load_Same_2)
structure X_slices_EqualFunc_Funcg24_4 where
  f1 : List ((Int) × It1)
  f15 : List ((Int) × It1)
  f16 : Int
  f17 : Int

noncomputable def B_slices_EqualFunc_Funcg24_4 {R : Type} (k_ret : Bool → Option R) (k_exit_0 : Option R) (rec : X_slices_EqualFunc_Funcg24_4 → Option R) (x : X_slices_EqualFunc_Funcg24_4) : Option R :=
  let v1 := decide (x.f17 < x.f16)
  cond v1
  (cond (inB x.f17 (List.length x.f15))
  (let v2 := List.getD x.f15 x.f17.toNat ((0 : Int), (([] : List (Int)), (([] : List ((Int) × (Int) × (Int) × (Int) × (List (Int)) × Unit)), ())))
  cond (inB x.f17 (List.length x.f1))
  (let v3 := List.getD x.f1 x.f17.toNat ((0 : Int), (([] : List (Int)), (([] : List ((Int) × (Int) × (Int) × (Int) × (List (Int)) × Unit)), ())))
  p_load_Same_2 v2 v3 fun r4 =>
  let v5 := !r4
  cond v5
  (k_ret false)
  (let v6 := IntKind.i64.wrap (x.f17 + (1 : Int))
  rec ⟨x.f1, x.f15, x.f16, v6⟩)) none) none)
  (k_exit_0)
noncomputable def S_slices_EqualFunc_Funcg24_4 (x : X_slices_EqualFunc_Funcg24_4) : St := St.ofList [(1, (.v (.sl 63 (.pair (.int .i64) Ty12)) .s x.f1)), (2, (.fn 24 [] [])), (15, (.v (.sl 63 (.pair (.int .i64) Ty12)) .s x.f15)), (16, (.v (.int .i64) .s x.f16)), (17, (.v (.int .i64) .s x.f17))]
def out_slices_EqualFunc_Funcg24_4 : Ex → List (Nat × Bool) | .ret => [(6, false)] | .exit 0 => [] | _ => []
noncomputable def fuel_slices_EqualFunc_Funcg24_4 (x : X_slices_EqualFunc_Funcg24_4) : Nat := fuel64
noncomputable def c_slices_EqualFunc_Funcg24_4 : Code := match loopAt 4 (body Tryz.f23.body) with | some c => c | none => .skip
noncomputable def lp_slices_EqualFunc_Funcg24 : Loops := fun z i R st K => match z, i with
  | false, 4 => coerce [(1, false), (2, false), (15, false), (16, false), (17, false)] st (fun st => mV (.sl 63 (.pair (.int .i64) Ty12)) .s (st 1) fun y1 => mFn 24 [] [] (st 2) (mV (.sl 63 (.pair (.int .i64) Ty12)) .s (st 15) fun y15 => mV (.int .i64) .s (st 16) fun y16 => mV (.int .i64) .s (st 17) fun y17 => loopN (B_slices_EqualFunc_Funcg24_4 (fun e6 => K .ret (St.ofList [(6, (.v .bool .s e6))])) (K (.exit 0) (St.ofList []))) (fuel_slices_EqualFunc_Funcg24_4 ⟨y1, y15, y16, y17⟩) ⟨y1, y15, y16, y17⟩))
  | _, _ => none
theorem step_slices_EqualFunc_Funcg24_4 (R : Type) (K : Ex → St → Option R) (rec : St → Option R) (x : X_slices_EqualFunc_Funcg24_4) : evC env_slices_EqualFunc_Funcg24 lp_slices_EqualFunc_Funcg24 inl0 c_slices_EqualFunc_Funcg24_4 (S_slices_EqualFunc_Funcg24_4 x) (fun e st => match e with | .normal => coerce [(1, false), (2, false), (15, false), (16, false), (17, false)] st rec | e => coerce (out_slices_EqualFunc_Funcg24_4 e) st (K e)) = B_slices_EqualFunc_Funcg24_4 (fun e6 => K .ret (St.ofList [(6, (.v .bool .s e6))])) (K (.exit 0) (St.ofList [])) (fun x => rec (S_slices_EqualFunc_Funcg24_4 x)) x := by kernel_rfl
theorem ok_slices_EqualFunc_Funcg24_4 : LoopOk env_slices_EqualFunc_Funcg24 lp_slices_EqualFunc_Funcg24 inl0 c_slices_EqualFunc_Funcg24_4 := by
  refine loopOk_of (hd := [(1, false), (2, false), (15, false), (16, false), (17, false)]) (out := out_slices_EqualFunc_Funcg24_4) (S := S_slices_EqualFunc_Funcg24_4) (fun _ K => B_slices_EqualFunc_Funcg24_4 (fun e6 => K .ret (St.ofList [(6, (.v .bool .s e6))])) (K (.exit 0) (St.ofList []))) fuel_slices_EqualFunc_Funcg24_4 4 step_slices_EqualFunc_Funcg24_4 (by kernel_rfl) (fun R K => fun st => mV (.sl 63 (.pair (.int .i64) Ty12)) .s (st 1) fun y1 => mFn 24 [] [] (st 2) (mV (.sl 63 (.pair (.int .i64) Ty12)) .s (st 15) fun y15 => mV (.int .i64) .s (st 16) fun y16 => mV (.int .i64) .s (st 17) fun y17 => loopN (B_slices_EqualFunc_Funcg24_4 (fun e6 => K .ret (St.ofList [(6, (.v .bool .s e6))])) (K (.exit 0) (St.ofList []))) (fuel_slices_EqualFunc_Funcg24_4 ⟨y1, y15, y16, y17⟩) ⟨y1, y15, y16, y17⟩)) (fun R st K => by kernel_rfl) ?_
  intro R K st r h
  obtain ⟨y1, hy1, h⟩ := mV_inv h
  obtain ⟨hy2, h⟩ := mFn_inv h
  obtain ⟨y15, hy15, h⟩ := mV_inv h
  obtain ⟨y16, hy16, h⟩ := mV_inv h
  obtain ⟨y17, hy17, h⟩ := mV_inv h
  exact ⟨⟨y1, y15, y16, y17⟩, only_of_list (ofList_cons hy1 (ofList_cons hy2 (ofList_cons hy15 (ofList_cons hy16 (ofList_cons hy17 rfl))))), h⟩
theorem loops_slices_EqualFunc_Funcg24 : LoopsOk env_slices_EqualFunc_Funcg24 lp_slices_EqualFunc_Funcg24 inl0 (body Tryz.f23.body) := by
  refine loopsOk_of (fun c hc => ?_) (fun c hc => ?_)
  · rw [show loopsL (body Tryz.f23.body) = [c_slices_EqualFunc_Funcg24_4] by kernel_rfl] at hc
    simp only [List.mem_cons, List.not_mem_nil, or_false] at hc
    rcases hc with rfl
    · exact ok_slices_EqualFunc_Funcg24_4
  · rw [show joinsL env_slices_EqualFunc_Funcg24 (body Tryz.f23.body) = [] by kernel_rfl] at hc; cases hc
noncomputable def p_slices_EqualFunc_Funcg24 {R : Type} (a0 : List ((Int) × It1)) (a1 : List ((Int) × It1)) (K : Bool → Option R) : Option R :=
  let v1 := ((List.length a0 : Nat) : Int)
  let v2 := ((List.length a1 : Nat) : Int)
  let v3 := v1 != v2
  cond v3
  (K false)
  (let v4 := ((List.length a0 : Nat) : Int)
  loopN (B_slices_EqualFunc_Funcg24_4 (fun w5 =>
  K w5) (K true)) (fuel_slices_EqualFunc_Funcg24_4 ⟨a1, a0, v4, (0 : Int)⟩) ⟨a1, a0, v4, (0 : Int)⟩)
noncomputable def cs_slices_EqualFunc_Funcg24 : CSpec := { ins := [(.val (.sl 63 (.pair (.int .i64) Ty12)) .s), (.val (.sl 63 (.pair (.int .i64) Ty12)) .s), (.fn 24)], outs := [(.bool, .s)], fn := fun (d : (List ((Int) × It1)) × (List ((Int) × It1)) × Unit × Unit) K _ => p_slices_EqualFunc_Funcg24 d.1 d.2.1 (fun r0 => K ((r0, ()) : Bool × Unit) ((()) : Unit)) }
theorem h_slices_EqualFunc_Funcg24 : Holds Tryz.prog 23 cs_slices_EqualFunc_Funcg24 := by
  refine holds_of (env := env_slices_EqualFunc_Funcg24) (inl := inl0) (fn := Tryz.f23) (code := body Tryz.f23.body) (rs := [(6, none)]) (lp := lp_slices_EqualFunc_Funcg24) mixed ⟨envTyOk.ty, envTyOk.eq⟩ gamOk_slices_EqualFunc_Funcg24 inl0_ok Tryz.func23 (by kernel_rfl) (by kernel_rfl) (by kernel_rfl) (by kernel_rfl) (by kernel_rfl) loops_slices_EqualFunc_Funcg24 (by kernel_rfl) ?_
  intro d R K Kp res h
  have : evC env_slices_EqualFunc_Funcg24 lp_slices_EqualFunc_Funcg24 inl0 (body Tryz.f23.body) (St.start cs_slices_EqualFunc_Funcg24.ins d) (retK env_slices_EqualFunc_Funcg24 cs_slices_EqualFunc_Funcg24.ins cs_slices_EqualFunc_Funcg24.outs [(6, none)] cs_slices_EqualFunc_Funcg24.pan K Kp) = cs_slices_EqualFunc_Funcg24.fn d K Kp := by kernel_rfl
  rw [this]; exact h
-- f27 slices.EqualFunc[[]trammel/api.Global,[]trammel/api.Global,trammel/api.Global,trammel/api.Global]
noncomputable def gam_slices_EqualFunc_Globalg28 : FuncId → List FuncId → Option CSpec
  | 28, [] => some cs_load_Same_3
  | _, _ => none
noncomputable def fs_slices_EqualFunc_Globalg28 : Nat → Bool
  | 8 => true
  | 9 => true
  | _ => false
noncomputable def env_slices_EqualFunc_Globalg28 : Env := { ty := envTy, eq := envEq, gam := gam_slices_EqualFunc_Globalg28, n := Tryz.f27.ntmps, fs := fs_slices_EqualFunc_Globalg28 }
theorem gamOk_slices_EqualFunc_Globalg28 : EnvFn Tryz.prog env_slices_EqualFunc_Globalg28 := by
  intro f gs c h
  unfold env_slices_EqualFunc_Globalg28 gam_slices_EqualFunc_Globalg28 at h
  simp only at h
  split at h <;> first | (cases h; done) | (cases h; exact h_load_Same_3)
structure X_slices_EqualFunc_Globalg28_4 where
  f1 : List ((Int) × It2)
  f15 : List ((Int) × It2)
  f16 : Int
  f17 : Int

noncomputable def B_slices_EqualFunc_Globalg28_4 {R : Type} (k_ret : Bool → Option R) (k_exit_0 : Option R) (rec : X_slices_EqualFunc_Globalg28_4 → Option R) (x : X_slices_EqualFunc_Globalg28_4) : Option R :=
  let v1 := decide (x.f17 < x.f16)
  cond v1
  (cond (inB x.f17 (List.length x.f15))
  (let v2 := List.getD x.f15 x.f17.toNat ((0 : Int), (false, (([] : List ((Int) × (Int) × (Int) × (Int) × (List (Int)) × Unit)), ())))
  cond (inB x.f17 (List.length x.f1))
  (let v3 := List.getD x.f1 x.f17.toNat ((0 : Int), (false, (([] : List ((Int) × (Int) × (Int) × (Int) × (List (Int)) × Unit)), ())))
  p_load_Same_3 v2 v3 fun r4 =>
  let v5 := !r4
  cond v5
  (k_ret false)
  (let v6 := IntKind.i64.wrap (x.f17 + (1 : Int))
  rec ⟨x.f1, x.f15, x.f16, v6⟩)) none) none)
  (k_exit_0)
noncomputable def S_slices_EqualFunc_Globalg28_4 (x : X_slices_EqualFunc_Globalg28_4) : St := St.ofList [(1, (.v (.sl 66 (.pair (.int .i64) Ty13)) .s x.f1)), (2, (.fn 28 [] [])), (15, (.v (.sl 66 (.pair (.int .i64) Ty13)) .s x.f15)), (16, (.v (.int .i64) .s x.f16)), (17, (.v (.int .i64) .s x.f17))]
def out_slices_EqualFunc_Globalg28_4 : Ex → List (Nat × Bool) | .ret => [(6, false)] | .exit 0 => [] | _ => []
noncomputable def fuel_slices_EqualFunc_Globalg28_4 (x : X_slices_EqualFunc_Globalg28_4) : Nat := fuel64
noncomputable def c_slices_EqualFunc_Globalg28_4 : Code := match loopAt 4 (body Tryz.f27.body) with | some c => c | none => .skip
noncomputable def lp_slices_EqualFunc_Globalg28 : Loops := fun z i R st K => match z, i with
  | false, 4 => coerce [(1, false), (2, false), (15, false), (16, false), (17, false)] st (fun st => mV (.sl 66 (.pair (.int .i64) Ty13)) .s (st 1) fun y1 => mFn 28 [] [] (st 2) (mV (.sl 66 (.pair (.int .i64) Ty13)) .s (st 15) fun y15 => mV (.int .i64) .s (st 16) fun y16 => mV (.int .i64) .s (st 17) fun y17 => loopN (B_slices_EqualFunc_Globalg28_4 (fun e6 => K .ret (St.ofList [(6, (.v .bool .s e6))])) (K (.exit 0) (St.ofList []))) (fuel_slices_EqualFunc_Globalg28_4 ⟨y1, y15, y16, y17⟩) ⟨y1, y15, y16, y17⟩))
  | _, _ => none
theorem step_slices_EqualFunc_Globalg28_4 (R : Type) (K : Ex → St → Option R) (rec : St → Option R) (x : X_slices_EqualFunc_Globalg28_4) : evC env_slices_EqualFunc_Globalg28 lp_slices_EqualFunc_Globalg28 inl0 c_slices_EqualFunc_Globalg28_4 (S_slices_EqualFunc_Globalg28_4 x) (fun e st => match e with | .normal => coerce [(1, false), (2, false), (15, false), (16, false), (17, false)] st rec | e => coerce (out_slices_EqualFunc_Globalg28_4 e) st (K e)) = B_slices_EqualFunc_Globalg28_4 (fun e6 => K .ret (St.ofList [(6, (.v .bool .s e6))])) (K (.exit 0) (St.ofList [])) (fun x => rec (S_slices_EqualFunc_Globalg28_4 x)) x := by kernel_rfl
theorem ok_slices_EqualFunc_Globalg28_4 : LoopOk env_slices_EqualFunc_Globalg28 lp_slices_EqualFunc_Globalg28 inl0 c_slices_EqualFunc_Globalg28_4 := by
  refine loopOk_of (hd := [(1, false), (2, false), (15, false), (16, false), (17, false)]) (out := out_slices_EqualFunc_Globalg28_4) (S := S_slices_EqualFunc_Globalg28_4) (fun _ K => B_slices_EqualFunc_Globalg28_4 (fun e6 => K .ret (St.ofList [(6, (.v .bool .s e6))])) (K (.exit 0) (St.ofList []))) fuel_slices_EqualFunc_Globalg28_4 4 step_slices_EqualFunc_Globalg28_4 (by kernel_rfl) (fun R K => fun st => mV (.sl 66 (.pair (.int .i64) Ty13)) .s (st 1) fun y1 => mFn 28 [] [] (st 2) (mV (.sl 66 (.pair (.int .i64) Ty13)) .s (st 15) fun y15 => mV (.int .i64) .s (st 16) fun y16 => mV (.int .i64) .s (st 17) fun y17 => loopN (B_slices_EqualFunc_Globalg28_4 (fun e6 => K .ret (St.ofList [(6, (.v .bool .s e6))])) (K (.exit 0) (St.ofList []))) (fuel_slices_EqualFunc_Globalg28_4 ⟨y1, y15, y16, y17⟩) ⟨y1, y15, y16, y17⟩)) (fun R st K => by kernel_rfl) ?_
  intro R K st r h
  obtain ⟨y1, hy1, h⟩ := mV_inv h
  obtain ⟨hy2, h⟩ := mFn_inv h
  obtain ⟨y15, hy15, h⟩ := mV_inv h
  obtain ⟨y16, hy16, h⟩ := mV_inv h
  obtain ⟨y17, hy17, h⟩ := mV_inv h
  exact ⟨⟨y1, y15, y16, y17⟩, only_of_list (ofList_cons hy1 (ofList_cons hy2 (ofList_cons hy15 (ofList_cons hy16 (ofList_cons hy17 rfl))))), h⟩
theorem loops_slices_EqualFunc_Globalg28 : LoopsOk env_slices_EqualFunc_Globalg28 lp_slices_EqualFunc_Globalg28 inl0 (body Tryz.f27.body) := by
  refine loopsOk_of (fun c hc => ?_) (fun c hc => ?_)
  · rw [show loopsL (body Tryz.f27.body) = [c_slices_EqualFunc_Globalg28_4] by kernel_rfl] at hc
    simp only [List.mem_cons, List.not_mem_nil, or_false] at hc
    rcases hc with rfl
    · exact ok_slices_EqualFunc_Globalg28_4
  · rw [show joinsL env_slices_EqualFunc_Globalg28 (body Tryz.f27.body) = [] by kernel_rfl] at hc; cases hc
noncomputable def p_slices_EqualFunc_Globalg28 {R : Type} (a0 : List ((Int) × It2)) (a1 : List ((Int) × It2)) (K : Bool → Option R) : Option R :=
  let v1 := ((List.length a0 : Nat) : Int)
  let v2 := ((List.length a1 : Nat) : Int)
  let v3 := v1 != v2
  cond v3
  (K false)
  (let v4 := ((List.length a0 : Nat) : Int)
  loopN (B_slices_EqualFunc_Globalg28_4 (fun w5 =>
  K w5) (K true)) (fuel_slices_EqualFunc_Globalg28_4 ⟨a1, a0, v4, (0 : Int)⟩) ⟨a1, a0, v4, (0 : Int)⟩)
noncomputable def cs_slices_EqualFunc_Globalg28 : CSpec := { ins := [(.val (.sl 66 (.pair (.int .i64) Ty13)) .s), (.val (.sl 66 (.pair (.int .i64) Ty13)) .s), (.fn 28)], outs := [(.bool, .s)], fn := fun (d : (List ((Int) × It2)) × (List ((Int) × It2)) × Unit × Unit) K _ => p_slices_EqualFunc_Globalg28 d.1 d.2.1 (fun r0 => K ((r0, ()) : Bool × Unit) ((()) : Unit)) }
theorem h_slices_EqualFunc_Globalg28 : Holds Tryz.prog 27 cs_slices_EqualFunc_Globalg28 := by
  refine holds_of (env := env_slices_EqualFunc_Globalg28) (inl := inl0) (fn := Tryz.f27) (code := body Tryz.f27.body) (rs := [(6, none)]) (lp := lp_slices_EqualFunc_Globalg28) mixed ⟨envTyOk.ty, envTyOk.eq⟩ gamOk_slices_EqualFunc_Globalg28 inl0_ok Tryz.func27 (by kernel_rfl) (by kernel_rfl) (by kernel_rfl) (by kernel_rfl) (by kernel_rfl) loops_slices_EqualFunc_Globalg28 (by kernel_rfl) ?_
  intro d R K Kp res h
  have : evC env_slices_EqualFunc_Globalg28 lp_slices_EqualFunc_Globalg28 inl0 (body Tryz.f27.body) (St.start cs_slices_EqualFunc_Globalg28.ins d) (retK env_slices_EqualFunc_Globalg28 cs_slices_EqualFunc_Globalg28.ins cs_slices_EqualFunc_Globalg28.outs [(6, none)] cs_slices_EqualFunc_Globalg28.pan K Kp) = cs_slices_EqualFunc_Globalg28.fn d K Kp := by kernel_rfl
  rw [this]; exact h
-- f30 slices.EqualFunc[[]trammel/api.Elem,[]trammel/api.Elem,trammel/api.Elem,trammel/api.Elem]
noncomputable def gam_slices_EqualFunc_Elemg31 : FuncId → List FuncId → Option CSpec
  | 31, [] => some cs_load_Same_4
  | _, _ => none
noncomputable def fs_slices_EqualFunc_Elemg31 : Nat → Bool
  | 8 => true
  | 9 => true
  | _ => false
noncomputable def env_slices_EqualFunc_Elemg31 : Env := { ty := envTy, eq := envEq, gam := gam_slices_EqualFunc_Elemg31, n := Tryz.f30.ntmps, fs := fs_slices_EqualFunc_Elemg31 }
theorem gamOk_slices_EqualFunc_Elemg31 : EnvFn Tryz.prog env_slices_EqualFunc_Elemg31 := by
  intro f gs c h
  unfold env_slices_EqualFunc_Elemg31 gam_slices_EqualFunc_Elemg31 at h
  simp only at h
  split at h <;> first | (cases h; done) | (cases h; exact h_load_Same_4)
structure X_slices_EqualFunc_Elemg31_4 where
  f1 : List ((Int) × It3)
  f15 : List ((Int) × It3)
  f16 : Int
  f17 : Int

noncomputable def B_slices_EqualFunc_Elemg31_4 {R : Type} (k_ret : Bool → Option R) (k_exit_0 : Option R) (rec : X_slices_EqualFunc_Elemg31_4 → Option R) (x : X_slices_EqualFunc_Elemg31_4) : Option R :=
  let v1 := decide (x.f17 < x.f16)
  cond v1
  (cond (inB x.f17 (List.length x.f15))
  (let v2 := List.getD x.f15 x.f17.toNat ((0 : Int), (([] : List ((Int) × (Int) × (Int) × (Int) × (List (Int)) × Unit)), (([] : List (Int)), ())))
  cond (inB x.f17 (List.length x.f1))
  (let v3 := List.getD x.f1 x.f17.toNat ((0 : Int), (([] : List ((Int) × (Int) × (Int) × (Int) × (List (Int)) × Unit)), (([] : List (Int)), ())))
  p_load_Same_4 v2 v3 fun r4 =>
  let v5 := !r4
  cond v5
  (k_ret false)
  (let v6 := IntKind.i64.wrap (x.f17 + (1 : Int))
  rec ⟨x.f1, x.f15, x.f16, v6⟩)) none) none)
  (k_exit_0)
noncomputable def S_slices_EqualFunc_Elemg31_4 (x : X_slices_EqualFunc_Elemg31_4) : St := St.ofList [(1, (.v (.sl 70 (.pair (.int .i64) Ty14)) .s x.f1)), (2, (.fn 31 [] [])), (15, (.v (.sl 70 (.pair (.int .i64) Ty14)) .s x.f15)), (16, (.v (.int .i64) .s x.f16)), (17, (.v (.int .i64) .s x.f17))]
def out_slices_EqualFunc_Elemg31_4 : Ex → List (Nat × Bool) | .ret => [(6, false)] | .exit 0 => [] | _ => []
noncomputable def fuel_slices_EqualFunc_Elemg31_4 (x : X_slices_EqualFunc_Elemg31_4) : Nat := fuel64
noncomputable def c_slices_EqualFunc_Elemg31_4 : Code := match loopAt 4 (body Tryz.f30.body) with | some c => c | none => .skip
noncomputable def lp_slices_EqualFunc_Elemg31 : Loops := fun z i R st K => match z, i with
  | false, 4 => coerce [(1, false), (2, false), (15, false), (16, false), (17, false)] st (fun st => mV (.sl 70 (.pair (.int .i64) Ty14)) .s (st 1) fun y1 => mFn 31 [] [] (st 2) (mV (.sl 70 (.pair (.int .i64) Ty14)) .s (st 15) fun y15 => mV (.int .i64) .s (st 16) fun y16 => mV (.int .i64) .s (st 17) fun y17 => loopN (B_slices_EqualFunc_Elemg31_4 (fun e6 => K .ret (St.ofList [(6, (.v .bool .s e6))])) (K (.exit 0) (St.ofList []))) (fuel_slices_EqualFunc_Elemg31_4 ⟨y1, y15, y16, y17⟩) ⟨y1, y15, y16, y17⟩))
  | _, _ => none
theorem step_slices_EqualFunc_Elemg31_4 (R : Type) (K : Ex → St → Option R) (rec : St → Option R) (x : X_slices_EqualFunc_Elemg31_4) : evC env_slices_EqualFunc_Elemg31 lp_slices_EqualFunc_Elemg31 inl0 c_slices_EqualFunc_Elemg31_4 (S_slices_EqualFunc_Elemg31_4 x) (fun e st => match e with | .normal => coerce [(1, false), (2, false), (15, false), (16, false), (17, false)] st rec | e => coerce (out_slices_EqualFunc_Elemg31_4 e) st (K e)) = B_slices_EqualFunc_Elemg31_4 (fun e6 => K .ret (St.ofList [(6, (.v .bool .s e6))])) (K (.exit 0) (St.ofList [])) (fun x => rec (S_slices_EqualFunc_Elemg31_4 x)) x := by kernel_rfl
theorem ok_slices_EqualFunc_Elemg31_4 : LoopOk env_slices_EqualFunc_Elemg31 lp_slices_EqualFunc_Elemg31 inl0 c_slices_EqualFunc_Elemg31_4 := by
  refine loopOk_of (hd := [(1, false), (2, false), (15, false), (16, false), (17, false)]) (out := out_slices_EqualFunc_Elemg31_4) (S := S_slices_EqualFunc_Elemg31_4) (fun _ K => B_slices_EqualFunc_Elemg31_4 (fun e6 => K .ret (St.ofList [(6, (.v .bool .s e6))])) (K (.exit 0) (St.ofList []))) fuel_slices_EqualFunc_Elemg31_4 4 step_slices_EqualFunc_Elemg31_4 (by kernel_rfl) (fun R K => fun st => mV (.sl 70 (.pair (.int .i64) Ty14)) .s (st 1) fun y1 => mFn 31 [] [] (st 2) (mV (.sl 70 (.pair (.int .i64) Ty14)) .s (st 15) fun y15 => mV (.int .i64) .s (st 16) fun y16 => mV (.int .i64) .s (st 17) fun y17 => loopN (B_slices_EqualFunc_Elemg31_4 (fun e6 => K .ret (St.ofList [(6, (.v .bool .s e6))])) (K (.exit 0) (St.ofList []))) (fuel_slices_EqualFunc_Elemg31_4 ⟨y1, y15, y16, y17⟩) ⟨y1, y15, y16, y17⟩)) (fun R st K => by kernel_rfl) ?_
  intro R K st r h
  obtain ⟨y1, hy1, h⟩ := mV_inv h
  obtain ⟨hy2, h⟩ := mFn_inv h
  obtain ⟨y15, hy15, h⟩ := mV_inv h
  obtain ⟨y16, hy16, h⟩ := mV_inv h
  obtain ⟨y17, hy17, h⟩ := mV_inv h
  exact ⟨⟨y1, y15, y16, y17⟩, only_of_list (ofList_cons hy1 (ofList_cons hy2 (ofList_cons hy15 (ofList_cons hy16 (ofList_cons hy17 rfl))))), h⟩
theorem loops_slices_EqualFunc_Elemg31 : LoopsOk env_slices_EqualFunc_Elemg31 lp_slices_EqualFunc_Elemg31 inl0 (body Tryz.f30.body) := by
  refine loopsOk_of (fun c hc => ?_) (fun c hc => ?_)
  · rw [show loopsL (body Tryz.f30.body) = [c_slices_EqualFunc_Elemg31_4] by kernel_rfl] at hc
    simp only [List.mem_cons, List.not_mem_nil, or_false] at hc
    rcases hc with rfl
    · exact ok_slices_EqualFunc_Elemg31_4
  · rw [show joinsL env_slices_EqualFunc_Elemg31 (body Tryz.f30.body) = [] by kernel_rfl] at hc; cases hc
noncomputable def p_slices_EqualFunc_Elemg31 {R : Type} (a0 : List ((Int) × It3)) (a1 : List ((Int) × It3)) (K : Bool → Option R) : Option R :=
  let v1 := ((List.length a0 : Nat) : Int)
  let v2 := ((List.length a1 : Nat) : Int)
  let v3 := v1 != v2
  cond v3
  (K false)
  (let v4 := ((List.length a0 : Nat) : Int)
  loopN (B_slices_EqualFunc_Elemg31_4 (fun w5 =>
  K w5) (K true)) (fuel_slices_EqualFunc_Elemg31_4 ⟨a1, a0, v4, (0 : Int)⟩) ⟨a1, a0, v4, (0 : Int)⟩)
noncomputable def cs_slices_EqualFunc_Elemg31 : CSpec := { ins := [(.val (.sl 70 (.pair (.int .i64) Ty14)) .s), (.val (.sl 70 (.pair (.int .i64) Ty14)) .s), (.fn 31)], outs := [(.bool, .s)], fn := fun (d : (List ((Int) × It3)) × (List ((Int) × It3)) × Unit × Unit) K _ => p_slices_EqualFunc_Elemg31 d.1 d.2.1 (fun r0 => K ((r0, ()) : Bool × Unit) ((()) : Unit)) }
theorem h_slices_EqualFunc_Elemg31 : Holds Tryz.prog 30 cs_slices_EqualFunc_Elemg31 := by
  refine holds_of (env := env_slices_EqualFunc_Elemg31) (inl := inl0) (fn := Tryz.f30) (code := body Tryz.f30.body) (rs := [(6, none)]) (lp := lp_slices_EqualFunc_Elemg31) mixed ⟨envTyOk.ty, envTyOk.eq⟩ gamOk_slices_EqualFunc_Elemg31 inl0_ok Tryz.func30 (by kernel_rfl) (by kernel_rfl) (by kernel_rfl) (by kernel_rfl) (by kernel_rfl) loops_slices_EqualFunc_Elemg31 (by kernel_rfl) ?_
  intro d R K Kp res h
  have : evC env_slices_EqualFunc_Elemg31 lp_slices_EqualFunc_Elemg31 inl0 (body Tryz.f30.body) (St.start cs_slices_EqualFunc_Elemg31.ins d) (retK env_slices_EqualFunc_Elemg31 cs_slices_EqualFunc_Elemg31.ins cs_slices_EqualFunc_Elemg31.outs [(6, none)] cs_slices_EqualFunc_Elemg31.pan K Kp) = cs_slices_EqualFunc_Elemg31.fn d K Kp := by kernel_rfl
  rw [this]; exact h
-- f32 slices.EqualFunc[[]trammel/api.Data,[]trammel/api.Data,trammel/api.Data,trammel/api.Data]
noncomputable def gam_slices_EqualFunc_Datag33 : FuncId → List FuncId → Option CSpec
  | 33, [] => some cs_load_Same_5
  | _, _ => none
noncomputable def fs_slices_EqualFunc_Datag33 : Nat → Bool
  | 8 => true
  | 9 => true
  | _ => false
noncomputable def env_slices_EqualFunc_Datag33 : Env := { ty := envTy, eq := envEq, gam := gam_slices_EqualFunc_Datag33, n := Tryz.f32.ntmps, fs := fs_slices_EqualFunc_Datag33 }
theorem gamOk_slices_EqualFunc_Datag33 : EnvFn Tryz.prog env_slices_EqualFunc_Datag33 := by
  intro f gs c h
  unfold env_slices_EqualFunc_Datag33 gam_slices_EqualFunc_Datag33 at h
  simp only at h
  split at h <;> first | (cases h; done) | (cases h; exact h_load_Same_5)
structure X_slices_EqualFunc_Datag33_4 where
  f1 : List ((Int) × It3)
  f15 : List ((Int) × It3)
  f16 : Int
  f17 : Int

noncomputable def B_slices_EqualFunc_Datag33_4 {R : Type} (k_ret : Bool → Option R) (k_exit_0 : Option R) (rec : X_slices_EqualFunc_Datag33_4 → Option R) (x : X_slices_EqualFunc_Datag33_4) : Option R :=
  let v1 := decide (x.f17 < x.f16)
  cond v1
  (cond (inB x.f17 (List.length x.f15))
  (let v2 := List.getD x.f15 x.f17.toNat ((0 : Int), (([] : List ((Int) × (Int) × (Int) × (Int) × (List (Int)) × Unit)), (([] : List (Int)), ())))
  cond (inB x.f17 (List.length x.f1))
  (let v3 := List.getD x.f1 x.f17.toNat ((0 : Int), (([] : List ((Int) × (Int) × (Int) × (Int) × (List (Int)) × Unit)), (([] : List (Int)), ())))
  p_load_Same_5 v2 v3 fun r4 =>
  let v5 := !r4
  cond v5
  (k_ret false)
  (let v6 := IntKind.i64.wrap (x.f17 + (1 : Int))
  rec ⟨x.f1, x.f15, x.f16, v6⟩)) none) none)
  (k_exit_0)
noncomputable def S_slices_EqualFunc_Datag33_4 (x : X_slices_EqualFunc_Datag33_4) : St := St.ofList [(1, (.v (.sl 72 (.pair (.int .i64) Ty15)) .s x.f1)), (2, (.fn 33 [] [])), (15, (.v (.sl 72 (.pair (.int .i64) Ty15)) .s x.f15)), (16, (.v (.int .i64) .s x.f16)), (17, (.v (.int .i64) .s x.f17))]
def out_slices_EqualFunc_Datag33_4 : Ex → List (Nat × Bool) | .ret => [(6, false)] | .exit 0 => [] | _ => []
noncomputable def fuel_slices_EqualFunc_Datag33_4 (x : X_slices_EqualFunc_Datag33_4) : Nat := fuel64
noncomputable def c_slices_EqualFunc_Datag33_4 : Code := match loopAt 4 (body Tryz.f32.body) with | some c => c | none => .skip
noncomputable def lp_slices_EqualFunc_Datag33 : Loops := fun z i R st K => match z, i with
  | false, 4 => coerce [(1, false), (2, false), (15, false), (16, false), (17, false)] st (fun st => mV (.sl 72 (.pair (.int .i64) Ty15)) .s (st 1) fun y1 => mFn 33 [] [] (st 2) (mV (.sl 72 (.pair (.int .i64) Ty15)) .s (st 15) fun y15 => mV (.int .i64) .s (st 16) fun y16 => mV (.int .i64) .s (st 17) fun y17 => loopN (B_slices_EqualFunc_Datag33_4 (fun e6 => K .ret (St.ofList [(6, (.v .bool .s e6))])) (K (.exit 0) (St.ofList []))) (fuel_slices_EqualFunc_Datag33_4 ⟨y1, y15, y16, y17⟩) ⟨y1, y15, y16, y17⟩))
  | _, _ => none
theorem step_slices_EqualFunc_Datag33_4 (R : Type) (K : Ex → St → Option R) (rec : St → Option R) (x : X_slices_EqualFunc_Datag33_4) : evC env_slices_EqualFunc_Datag33 lp_slices_EqualFunc_Datag33 inl0 c_slices_EqualFunc_Datag33_4 (S_slices_EqualFunc_Datag33_4 x) (fun e st => match e with | .normal => coerce [(1, false), (2, false), (15, false), (16, false), (17, false)] st rec | e => coerce (out_slices_EqualFunc_Datag33_4 e) st (K e)) = B_slices_EqualFunc_Datag33_4 (fun e6 => K .ret (St.ofList [(6, (.v .bool .s e6))])) (K (.exit 0) (St.ofList [])) (fun x => rec (S_slices_EqualFunc_Datag33_4 x)) x := by kernel_rfl
theorem ok_slices_EqualFunc_Datag33_4 : LoopOk env_slices_EqualFunc_Datag33 lp_slices_EqualFunc_Datag33 inl0 c_slices_EqualFunc_Datag33_4 := by
  refine loopOk_of (hd := [(1, false), (2, false), (15, false), (16, false), (17, false)]) (out := out_slices_EqualFunc_Datag33_4) (S := S_slices_EqualFunc_Datag33_4) (fun _ K => B_slices_EqualFunc_Datag33_4 (fun e6 => K .ret (St.ofList [(6, (.v .bool .s e6))])) (K (.exit 0) (St.ofList []))) fuel_slices_EqualFunc_Datag33_4 4 step_slices_EqualFunc_Datag33_4 (by kernel_rfl) (fun R K => fun st => mV (.sl 72 (.pair (.int .i64) Ty15)) .s (st 1) fun y1 => mFn 33 [] [] (st 2) (mV (.sl 72 (.pair (.int .i64) Ty15)) .s (st 15) fun y15 => mV (.int .i64) .s (st 16) fun y16 => mV (.int .i64) .s (st 17) fun y17 => loopN (B_slices_EqualFunc_Datag33_4 (fun e6 => K .ret (St.ofList [(6, (.v .bool .s e6))])) (K (.exit 0) (St.ofList []))) (fuel_slices_EqualFunc_Datag33_4 ⟨y1, y15, y16, y17⟩) ⟨y1, y15, y16, y17⟩)) (fun R st K => by kernel_rfl) ?_
  intro R K st r h
  obtain ⟨y1, hy1, h⟩ := mV_inv h
  obtain ⟨hy2, h⟩ := mFn_inv h
  obtain ⟨y15, hy15, h⟩ := mV_inv h
  obtain ⟨y16, hy16, h⟩ := mV_inv h
  obtain ⟨y17, hy17, h⟩ := mV_inv h
  exact ⟨⟨y1, y15, y16, y17⟩, only_of_list (ofList_cons hy1 (ofList_cons hy2 (ofList_cons hy15 (ofList_cons hy16 (ofList_cons hy17 rfl))))), h⟩
theorem loops_slices_EqualFunc_Datag33 : LoopsOk env_slices_EqualFunc_Datag33 lp_slices_EqualFunc_Datag33 inl0 (body Tryz.f32.body) := by
  refine loopsOk_of (fun c hc => ?_) (fun c hc => ?_)
  · rw [show loopsL (body Tryz.f32.body) = [c_slices_EqualFunc_Datag33_4] by kernel_rfl] at hc
    simp only [List.mem_cons, List.not_mem_nil, or_false] at hc
    rcases hc with rfl
    · exact ok_slices_EqualFunc_Datag33_4
  · rw [show joinsL env_slices_EqualFunc_Datag33 (body Tryz.f32.body) = [] by kernel_rfl] at hc; cases hc
noncomputable def p_slices_EqualFunc_Datag33 {R : Type} (a0 : List ((Int) × It3)) (a1 : List ((Int) × It3)) (K : Bool → Option R) : Option R :=
  let v1 := ((List.length a0 : Nat) : Int)
  let v2 := ((List.length a1 : Nat) : Int)
  let v3 := v1 != v2
  cond v3
  (K false)
  (let v4 := ((List.length a0 : Nat) : Int)
  loopN (B_slices_EqualFunc_Datag33_4 (fun w5 =>
  K w5) (K true)) (fuel_slices_EqualFunc_Datag33_4 ⟨a1, a0, v4, (0 : Int)⟩) ⟨a1, a0, v4, (0 : Int)⟩)
noncomputable def cs_slices_EqualFunc_Datag33 : CSpec := { ins := [(.val (.sl 72 (.pair (.int .i64) Ty15)) .s), (.val (.sl 72 (.pair (.int .i64) Ty15)) .s), (.fn 33)], outs := [(.bool, .s)], fn := fun (d : (List ((Int) × It3)) × (List ((Int) × It3)) × Unit × Unit) K _ => p_slices_EqualFunc_Datag33 d.1 d.2.1 (fun r0 => K ((r0, ()) : Bool × Unit) ((()) : Unit)) }
theorem h_slices_EqualFunc_Datag33 : Holds Tryz.prog 32 cs_slices_EqualFunc_Datag33 := by
  refine holds_of (env := env_slices_EqualFunc_Datag33) (inl := inl0) (fn := Tryz.f32) (code := body Tryz.f32.body) (rs := [(6, none)]) (lp := lp_slices_EqualFunc_Datag33) mixed ⟨envTyOk.ty, envTyOk.eq⟩ gamOk_slices_EqualFunc_Datag33 inl0_ok Tryz.func32 (by kernel_rfl) (by kernel_rfl) (by kernel_rfl) (by kernel_rfl) (by kernel_rfl) loops_slices_EqualFunc_Datag33 (by kernel_rfl) ?_
  intro d R K Kp res h
  have : evC env_slices_EqualFunc_Datag33 lp_slices_EqualFunc_Datag33 inl0 (body Tryz.f32.body) (St.start cs_slices_EqualFunc_Datag33.ins d) (retK env_slices_EqualFunc_Datag33 cs_slices_EqualFunc_Datag33.ins cs_slices_EqualFunc_Datag33.outs [(6, none)] cs_slices_EqualFunc_Datag33.pan K Kp) = cs_slices_EqualFunc_Datag33.fn d K Kp := by kernel_rfl
  rw [this]; exact h
-- f35 slices.EqualFunc[[]trammel/api.Custom,[]trammel/api.Custom,trammel/api.Custom,trammel/api.Custom]
noncomputable def gam_slices_EqualFunc_Customg36 : FuncId → List FuncId → Option CSpec
  | 36, [] => some cs_load_Same_6
  | _, _ => none
noncomputable def fs_slices_EqualFunc_Customg36 : Nat → Bool
  | 8 => true
  | 9 => true
  | _ => false
noncomputable def env_slices_EqualFunc_Customg36 : Env := { ty := envTy, eq := envEq, gam := gam_slices_EqualFunc_Customg36, n := Tryz.f35.ntmps, fs := fs_slices_EqualFunc_Customg36 }
theorem gamOk_slices_EqualFunc_Customg36 : EnvFn Tryz.prog env_slices_EqualFunc_Customg36 := by
  intro f gs c h
  unfold env_slices_EqualFunc_Customg36 gam_slices_EqualFunc_Customg36 at h
  simp only at h
  split at h <;> first | (cases h; done) | (cases h; exact h_load_Same_6)
structure X_slices_EqualFunc_Customg36_4 where
  f1 : List ((List UInt8) × (List (Int)) × Unit)
  f15 : List ((List UInt8) × (List (Int)) × Unit)
  f16 : Int
  f17 : Int

noncomputable def B_slices_EqualFunc_Customg36_4 {R : Type} (k_ret : Bool → Option R) (k_exit_0 : Option R) (rec : X_slices_EqualFunc_Customg36_4 → Option R) (x : X_slices_EqualFunc_Customg36_4) : Option R :=
  let v1 := decide (x.f17 < x.f16)
  cond v1
  (cond (inB x.f17 (List.length x.f15))
  (let v2 := List.getD x.f15 x.f17.toNat (([] : List UInt8), (([] : List (Int)), ()))
  cond (inB x.f17 (List.length x.f1))
  (let v3 := List.getD x.f1 x.f17.toNat (([] : List UInt8), (([] : List (Int)), ()))
  p_load_Same_6 v2 v3 fun r4 =>
  let v5 := !r4
  cond v5
  (k_ret false)
  (let v6 := IntKind.i64.wrap (x.f17 + (1 : Int))
  rec ⟨x.f1, x.f15, x.f16, v6⟩)) none) none)
  (k_exit_0)
noncomputable def S_slices_EqualFunc_Customg36_4 (x : X_slices_EqualFunc_Customg36_4) : St := St.ofList [(1, (.v (.sl 74 (.pair .str (.pair (.sl 5 (.int .u8)) .unit))) .s x.f1)), (2, (.fn 36 [] [])), (15, (.v (.sl 74 (.pair .str (.pair (.sl 5 (.int .u8)) .unit))) .s x.f15)), (16, (.v (.int .i64) .s x.f16)), (17, (.v (.int .i64) .s x.f17))]
def out_slices_EqualFunc_Customg36_4 : Ex → List (Nat × Bool) | .ret => [(6, false)] | .exit 0 => [] | _ => []
noncomputable def fuel_slices_EqualFunc_Customg36_4 (x : X_slices_EqualFunc_Customg36_4) : Nat := fuel64
noncomputable def c_slices_EqualFunc_Customg36_4 : Code := match loopAt 4 (body Tryz.f35.body) with | some c => c | none => .skip
noncomputable def lp_slices_EqualFunc_Customg36 : Loops := fun z i R st K => match z, i with
  | false, 4 => coerce [(1, false), (2, false), (15, false), (16, false), (17, false)] st (fun st => mV (.sl 74 (.pair .str (.pair (.sl 5 (.int .u8)) .unit))) .s (st 1) fun y1 => mFn 36 [] [] (st 2) (mV (.sl 74 (.pair .str (.pair (.sl 5 (.int .u8)) .unit))) .s (st 15) fun y15 => mV (.int .i64) .s (st 16) fun y16 => mV (.int .i64) .s (st 17) fun y17 => loopN (B_slices_EqualFunc_Customg36_4 (fun e6 => K .ret (St.ofList [(6, (.v .bool .s e6))])) (K (.exit 0) (St.ofList []))) (fuel_slices_EqualFunc_Customg36_4 ⟨y1, y15, y16, y17⟩) ⟨y1, y15, y16, y17⟩))
  | _, _ => none
theorem step_slices_EqualFunc_Customg36_4 (R : Type) (K : Ex → St → Option R) (rec : St → Option R) (x : X_slices_EqualFunc_Customg36_4) : evC env_slices_EqualFunc_Customg36 lp_slices_EqualFunc_Customg36 inl0 c_slices_EqualFunc_Customg36_4 (S_slices_EqualFunc_Customg36_4 x) (fun e st => match e with | .normal => coerce [(1, false), (2, false), (15, false), (16, false), (17, false)] st rec | e => coerce (out_slices_EqualFunc_Customg36_4 e) st (K e)) = B_slices_EqualFunc_Customg36_4 (fun e6 => K .ret (St.ofList [(6, (.v .bool .s e6))])) (K (.exit 0) (St.ofList [])) (fun x => rec (S_slices_EqualFunc_Customg36_4 x)) x := by kernel_rfl
theorem ok_slices_EqualFunc_Customg36_4 : LoopOk env_slices_EqualFunc_Customg36 lp_slices_EqualFunc_Customg36 inl0 c_slices_EqualFunc_Customg36_4 := by
  refine loopOk_of (hd := [(1, false), (2, false), (15, false), (16, false), (17, false)]) (out := out_slices_EqualFunc_Customg36_4) (S := S_slices_EqualFunc_Customg36_4) (fun _ K => B_slices_EqualFunc_Customg36_4 (fun e6 => K .ret (St.ofList [(6, (.v .bool .s e6))])) (K (.exit 0) (St.ofList []))) fuel_slices_EqualFunc_Customg36_4 4 step_slices_EqualFunc_Customg36_4 (by kernel_rfl) (fun R K => fun st => mV (.sl 74 (.pair .str (.pair (.sl 5 (.int .u8)) .unit))) .s (st 1) fun y1 => mFn 36 [] [] (st 2) (mV (.sl 74 (.pair .str (.pair (.sl 5 (.int .u8)) .unit))) .s (st 15) fun y15 => mV (.int .i64) .s (st 16) fun y16 => mV (.int .i64) .s (st 17) fun y17 => loopN (B_slices_EqualFunc_Customg36_4 (fun e6 => K .ret (St.ofList [(6, (.v .bool .s e6))])) (K (.exit 0) (St.ofList []))) (fuel_slices_EqualFunc_Customg36_4 ⟨y1, y15, y16, y17⟩) ⟨y1, y15, y16, y17⟩)) (fun R st K => by kernel_rfl) ?_
  intro R K st r h
  obtain ⟨y1, hy1, h⟩ := mV_inv h
  obtain ⟨hy2, h⟩ := mFn_inv h
  obtain ⟨y15, hy15, h⟩ := mV_inv h
  obtain ⟨y16, hy16, h⟩ := mV_inv h
  obtain ⟨y17, hy17, h⟩ := mV_inv h
  exact ⟨⟨y1, y15, y16, y17⟩, only_of_list (ofList_cons hy1 (ofList_cons hy2 (ofList_cons hy15 (ofList_cons hy16 (ofList_cons hy17 rfl))))), h⟩
theorem loops_slices_EqualFunc_Customg36 : LoopsOk env_slices_EqualFunc_Customg36 lp_slices_EqualFunc_Customg36 inl0 (body Tryz.f35.body) := by
  refine loopsOk_of (fun c hc => ?_) (fun c hc => ?_)
  · rw [show loopsL (body Tryz.f35.body) = [c_slices_EqualFunc_Customg36_4] by kernel_rfl] at hc
    simp only [List.mem_cons, List.not_mem_nil, or_false] at hc
    rcases hc with rfl
    · exact ok_slices_EqualFunc_Customg36_4
  · rw [show joinsL env_slices_EqualFunc_Customg36 (body Tryz.f35.body) = [] by kernel_rfl] at hc; cases hc
noncomputable def p_slices_EqualFunc_Customg36 {R : Type} (a0 : List ((List UInt8) × (List (Int)) × Unit)) (a1 : List ((List UInt8) × (List (Int)) × Unit)) (K : Bool → Option R) : Option R :=
  let v1 := ((List.length a0 : Nat) : Int)
  let v2 := ((List.length a1 : Nat) : Int)
  let v3 := v1 != v2
  cond v3
  (K false)
  (let v4 := ((List.length a0 : Nat) : Int)
  loopN (B_slices_EqualFunc_Customg36_4 (fun w5 =>
  K w5) (K true)) (fuel_slices_EqualFunc_Customg36_4 ⟨a1, a0, v4, (0 : Int)⟩) ⟨a1, a0, v4, (0 : Int)⟩)
noncomputable def cs_slices_EqualFunc_Customg36 : CSpec := { ins := [(.val (.sl 74 (.pair .str (.pair (.sl 5 (.int .u8)) .unit))) .s), (.val (.sl 74 (.pair .str (.pair (.sl 5 (.int .u8)) .unit))) .s), (.fn 36)], outs := [(.bool, .s)], fn := fun (d : (List ((List UInt8) × (List (Int)) × Unit)) × (List ((List UInt8) × (List (Int)) × Unit)) × Unit × Unit) K _ => p_slices_EqualFunc_Customg36 d.1 d.2.1 (fun r0 => K ((r0, ()) : Bool × Unit) ((()) : Unit)) }
theorem h_slices_EqualFunc_Customg36 : Holds Tryz.prog 35 cs_slices_EqualFunc_Customg36 := by
  refine holds_of (env := env_slices_EqualFunc_Customg36) (inl := inl0) (fn := Tryz.f35) (code := body Tryz.f35.body) (rs := [(6, none)]) (lp := lp_slices_EqualFunc_Customg36) mixed ⟨envTyOk.ty, envTyOk.eq⟩ gamOk_slices_EqualFunc_Customg36 inl0_ok Tryz.func35 (by kernel_rfl) (by kernel_rfl) (by kernel_rfl) (by kernel_rfl) (by kernel_rfl) loops_slices_EqualFunc_Customg36 (by kernel_rfl) ?_
  intro d R K Kp res h
  have : evC env_slices_EqualFunc_Customg36 lp_slices_EqualFunc_Customg36 inl0 (body Tryz.f35.body) (St.start cs_slices_EqualFunc_Customg36.ins d) (retK env_slices_EqualFunc_Customg36 cs_slices_EqualFunc_Customg36.ins cs_slices_EqualFunc_Customg36.outs [(6, none)] cs_slices_EqualFunc_Customg36.pan K Kp) = cs_slices_EqualFunc_Customg36.fn d K Kp := by kernel_rfl
  rw [this]; exact h
-- f10 trammel/load.Same
noncomputable def gam_load_Same : FuncId → List FuncId → Option CSpec
  | 19, [20] => some cs_slices_EqualFunc_FuncTypeg20
  | 22, [] => some cs_slices_Equal_Import
  | 23, [24] => some cs_slices_EqualFunc_Funcg24
  | 26, [] => some cs_slices_Equal_Limits
  | 27, [28] => some cs_slices_EqualFunc_Globalg28
  | 29, [] => some cs_slices_Equal_Export
  | 21, [] => some cs_slices_EqualInt
  | 30, [31] => some cs_slices_EqualFunc_Elemg31
  | 32, [33] => some cs_slices_EqualFunc_Datag33
  | 35, [36] => some cs_slices_EqualFunc_Customg36
  | _, _ => none
noncomputable def fz_load_Same : Nat → Bool
  | 2 => true
  | 3 => true
  | _ => false
noncomputable def lv_load_Same : Nat → Option (List Nat)
  | 0 => some [0, 1]
  | 1 => some [2, 3]
  | _ => none
noncomputable def om_load_Same : TypeId → Md
  | 22 => (.o .s)
  | 25 => (.o (.p (.o .s) (.p (.o .s) .s)))
  | 26 => (.o .s)
  | 27 => (.o (.p .s (.p (.o .s) (.p (.o (.p .s (.p .s (.p .s (.p .s (.p (.o .s) .s)))))) .s))))
  | 28 => (.o .s)
  | 29 => (.o (.p .s (.p .s (.p (.o (.p .s (.p .s (.p .s (.p .s (.p (.o .s) .s)))))) .s))))
  | 30 => (.o .s)
  | 31 => (.o .s)
  | 32 => (.o (.p .s (.p (.o (.p .s (.p .s (.p .s (.p .s (.p (.o .s) .s)))))) (.p (.o .s) .s))))
  | 33 => (.o (.p .s (.p (.o (.p .s (.p .s (.p .s (.p .s (.p (.o .s) .s)))))) (.p (.o .s) .s))))
  | 34 => (.o (.p .s (.p (.o .s) .s)))
  | 35 => (.p (.o (.p (.o .s) (.p (.o .s) .s))) (.p (.o .s) (.p (.o (.p .s (.p (.o .s) (.p (.o (.p .s (.p .s (.p .s (.p .s (.p (.o .s) .s)))))) .s)))) (.p (.o .s) (.p (.o .s) (.p (.o (.p .s (.p .s (.p (.o (.p .s (.p .s (.p .s (.p .s (.p (.o .s) .s)))))) .s)))) (.p (.o .s) (.p (.o .s) (.p (.o (.p .s (.p (.o (.p .s (.p .s (.p .s (.p .s (.p (.o .s) .s)))))) (.p (.o .s) .s)))) (.p (.o .s) (.p (.o (.p .s (.p (.o (.p .s (.p .s (.p .s (.p .s (.p (.o .s) .s)))))) (.p (.o .s) .s)))) (.p (.o (.p .s (.p (.o .s) .s))) .s))))))))))))
  | 36 => (.p (.o (.p (.o .s) (.p (.o .s) .s))) (.p (.o .s) (.p (.o (.p .s (.p (.o .s) (.p (.o (.p .s (.p .s (.p .s (.p .s (.p (.o .s) .s)))))) .s)))) (.p (.o .s) (.p (.o .s) (.p (.o (.p .s (.p .s (.p (.o (.p .s (.p .s (.p .s (.p .s (.p (.o .s) .s)))))) .s)))) (.p (.o .s) (.p (.o .s) (.p (.o (.p .s (.p (.o (.p .s (.p .s (.p .s (.p .s (.p (.o .s) .s)))))) (.p (.o .s) .s)))) (.p (.o .s) (.p (.o (.p .s (.p (.o (.p .s (.p .s (.p .s (.p .s (.p (.o .s) .s)))))) (.p (.o .s) .s)))) (.p (.o (.p .s (.p (.o .s) .s))) .s))))))))))))
  | 37 => (.o .s)
  | 38 => (.p (.o (.p (.o .s) (.p (.o .s) .s))) (.p (.o .s) (.p (.o .s) (.p (.o .s) (.p (.o .s) .s)))))
  | 39 => (.p (.o (.p (.o .s) (.p (.o .s) .s))) (.p (.o .s) (.p (.o .s) (.p (.o .s) (.p (.o .s) .s)))))
  | 54 => (.p (.o .s) (.p (.o .s) .s))
  | 55 => (.p (.o .s) (.p (.o .s) .s))
  | 61 => (.o (.p .s (.p .s (.p .s (.p .s (.p (.o .s) .s))))))
  | 62 => (.p .s (.p (.o .s) (.p (.o (.p .s (.p .s (.p .s (.p .s (.p (.o .s) .s)))))) .s)))
  | 63 => (.p .s (.p (.o .s) (.p (.o (.p .s (.p .s (.p .s (.p .s (.p (.o .s) .s)))))) .s)))
  | 65 => (.p .s (.p .s (.p (.o (.p .s (.p .s (.p .s (.p .s (.p (.o .s) .s)))))) .s)))
  | 66 => (.p .s (.p .s (.p (.o (.p .s (.p .s (.p .s (.p .s (.p (.o .s) .s)))))) .s)))
  | 69 => (.p .s (.p (.o (.p .s (.p .s (.p .s (.p .s (.p (.o .s) .s)))))) (.p (.o .s) .s)))
  | 70 => (.p .s (.p (.o (.p .s (.p .s (.p .s (.p .s (.p (.o .s) .s)))))) (.p (.o .s) .s)))
  | 71 => (.p .s (.p (.o (.p .s (.p .s (.p .s (.p .s (.p (.o .s) .s)))))) (.p (.o .s) .s)))
  | 72 => (.p .s (.p (.o (.p .s (.p .s (.p .s (.p .s (.p (.o .s) .s)))))) (.p (.o .s) .s)))
  | 73 => (.p .s (.p (.o .s) .s))
  | 74 => (.p .s (.p (.o .s) .s))
  | 93 => (.o (.p .s (.p (.o .s) .s)))
  | 96 => (.p .s (.p (.o .s) .s))
  | 97 => (.p .s (.p (.o .s) .s))
  | 101 => (.p (.o .s) .s)
  | 102 => (.p (.o .s) .s)
  | 106 => (.p (.p (.o (.p (.o .s) (.p (.o .s) .s))) (.p (.o .s) (.p (.o .s) (.p (.o .s) (.p (.o .s) .s))))) .s)
  | 107 => (.p (.p (.o (.p (.o .s) (.p (.o .s) .s))) (.p (.o .s) (.p (.o .s) (.p (.o .s) (.p (.o .s) .s))))) .s)
  | 117 => (.p .s (.p .s (.p .s (.p .s (.p (.o .s) .s)))))
  | 118 => (.p .s (.p .s (.p .s (.p .s (.p (.o .s) .s)))))
  | 154 => (.o (.p .s (.p (.o .s) (.p (.o .s) .s))))
  | 155 => (.p (.p (.o (.p (.o .s) (.p (.o .s) .s))) (.p (.o .s) (.p (.o .s) (.p (.o .s) (.p (.o .s) .s))))) (.p (.o .s) (.p (.o .s) (.p (.o (.p .s (.p (.o .s) (.p (.o .s) .s)))) .s))))
  | 156 => (.p (.p (.o (.p (.o .s) (.p (.o .s) .s))) (.p (.o .s) (.p (.o .s) (.p (.o .s) (.p (.o .s) .s))))) (.p (.o .s) (.p (.o .s) (.p (.o (.p .s (.p (.o .s) (.p (.o .s) .s)))) .s))))
  | 177 => (.o .s)
  | 178 => (.p (.o .s) .s)
  | 179 => (.p (.o .s) .s)
  | 183 => (.o (.o .s))
  | 185 => (.p .s (.p (.o .s) (.p (.o .s) .s)))
  | 186 => (.p .s (.p (.o .s) (.p (.o .s) .s)))
  | 212 => (.p (.o .s) .s)
  | 213 => (.p (.o .s) .s)
  | _ => .s
noncomputable def env_load_Same : Env := { ty := envTy, eq := envEq, gam := gam_load_Same, n := Tryz.f10.ntmps, fz := fz_load_Same, lv := lv_load_Same, om := om_load_Same }
theorem gamOk_load_Same : EnvFn Tryz.prog env_load_Same := by
  intro f gs c h
  unfold env_load_Same gam_load_Same at h
  simp only at h
  split at h <;> first | (cases h; done) | (cases h; exact h_slices_EqualFunc_FuncTypeg20) | (cases h; exact h_slices_Equal_Import) | (cases h; exact h_slices_EqualFunc_Funcg24) | (cases h; exact h_slices_Equal_Limits) | (cases h; exact h_slices_EqualFunc_Globalg28) | (cases h; exact h_slices_Equal_Export) | (cases h; exact h_slices_EqualInt) | (cases h; exact h_slices_EqualFunc_Elemg31) | (cases h; exact h_slices_EqualFunc_Datag33) | (cases h; exact h_slices_EqualFunc_Customg36)
noncomputable def p_load_Same {R : Type} (a0 : It7) (a1 : It7) (K : Bool → Option R) : Option R :=
  p_slices_EqualFunc_FuncTypeg20 a0.1 a1.1 fun r1 =>
  cond r1
  (p_slices_Equal_Import a0.2.1 a1.2.1 fun r2 =>
  cond r2
  (p_slices_EqualFunc_Funcg24 a0.2.2.1 a1.2.2.1 fun r3 =>
  cond r3
  (p_slices_Equal_Limits a0.2.2.2.1 a1.2.2.2.1 fun r4 =>
  cond r4
  (p_slices_Equal_Limits a0.2.2.2.2.1 a1.2.2.2.2.1 fun r5 =>
  cond r5
  (p_slices_EqualFunc_Globalg28 a0.2.2.2.2.2.1 a1.2.2.2.2.2.1 fun r6 =>
  cond r6
  (p_slices_Equal_Export a0.2.2.2.2.2.2.1 a1.2.2.2.2.2.2.1 fun r7 =>
  cond r7
  (p_slices_EqualInt a0.2.2.2.2.2.2.2.1 a1.2.2.2.2.2.2.2.1 fun r8 =>
  cond r8
  (p_slices_EqualFunc_Elemg31 a0.2.2.2.2.2.2.2.2.1 a1.2.2.2.2.2.2.2.2.1 fun r9 =>
  cond r9
  (p_slices_EqualInt a0.2.2.2.2.2.2.2.2.2.1 a1.2.2.2.2.2.2.2.2.2.1 fun r10 =>
  cond r10
  (p_slices_EqualFunc_Datag33 a0.2.2.2.2.2.2.2.2.2.2.1 a1.2.2.2.2.2.2.2.2.2.2.1 fun r11 =>
  cond r11
  (p_slices_EqualFunc_Customg36 a0.2.2.2.2.2.2.2.2.2.2.2.1 a1.2.2.2.2.2.2.2.2.2.2.2.1 fun r12 =>
  K r12)
  (K false))
  (K false))
  (K false))
  (K false))
  (K false))
  (K false))
  (K false))
  (K false))
  (K false))
  (K false))
  (K false)
noncomputable def cs_load_Same : CSpec := { ins := [(.val Ty21 .s), (.val Ty21 .s)], outs := [(.bool, .s)], fn := fun (d : It7 × It7 × Unit) K _ => p_load_Same d.1 d.2.1 (fun r0 => K ((r0, ()) : Bool × Unit) ((()) : Unit)) }
theorem h_load_Same : Holds Tryz.prog 10 cs_load_Same := by
  refine holds_of (env := env_load_Same) (inl := inl0) (fn := Tryz.f10) (code := body Tryz.f10.body) (rs := [(4, none)]) (lp := lp0) mixed ⟨envTyOk.ty, envTyOk.eq⟩ gamOk_load_Same inl0_ok Tryz.func10 (by kernel_rfl) (by kernel_rfl) (by kernel_rfl) (by kernel_rfl) (by kernel_rfl) (loopsOk_none (by kernel_rfl) (by kernel_rfl)) (by kernel_rfl) ?_
  intro d R K Kp res h
  have : evC env_load_Same lp0 inl0 (body Tryz.f10.body) (St.start cs_load_Same.ins d) (retK env_load_Same cs_load_Same.ins cs_load_Same.outs [(4, none)] cs_load_Same.pan K Kp) = cs_load_Same.fn d K Kp := by kernel_rfl
  rw [this]; exact h
-- f37 trammel/trammelref05.SameInts
noncomputable def env_ref05_SameInts : Env := { ty := envTy, eq := envEq, gam := noG, n := Tryz.f37.ntmps }
structure X_ref05_SameInts_4 where
  f0 : List (Int)
  f1 : List (Int)
  f5 : Int

noncomputable def B_ref05_SameInts_4 {R : Type} (k_ret : Bool → Option R) (k_exit_0 : Option R) (rec : X_ref05_SameInts_4 → Option R) (x : X_ref05_SameInts_4) : Option R :=
  let v1 := ((List.length x.f0 : Nat) : Int)
  let v2 := decide (x.f5 < v1)
  cond v2
  (cond (inB x.f5 (List.length x.f0))
  (let v3 := List.getD x.f0 x.f5.toNat (0 : Int)
  cond (inB x.f5 (List.length x.f1))
  (let v4 := List.getD x.f1 x.f5.toNat (0 : Int)
  let v5 := v3 != v4
  cond v5
  (k_ret false)
  (let v6 := IntKind.i64.wrap (x.f5 + (1 : Int))
  rec ⟨x.f0, x.f1, v6⟩)) none) none)
  (k_exit_0)
noncomputable def S_ref05_SameInts_4 (x : X_ref05_SameInts_4) : St := St.ofList [(0, (.v (.sl 3 (.int .i64)) .s x.f0)), (1, (.v (.sl 3 (.int .i64)) .s x.f1)), (5, (.v (.int .i64) .s x.f5))]
def out_ref05_SameInts_4 : Ex → List (Nat × Bool) | .ret => [(4, false)] | .exit 0 => [] | _ => []
noncomputable def fuel_ref05_SameInts_4 (x : X_ref05_SameInts_4) : Nat := fuel64
noncomputable def c_ref05_SameInts_4 : Code := match loopAt 4 (body Tryz.f37.body) with | some c => c | none => .skip
noncomputable def lp_ref05_SameInts : Loops := fun z i R st K => match z, i with
  | false, 4 => coerce [(0, false), (1, false), (5, false)] st (fun st => mV (.sl 3 (.int .i64)) .s (st 0) fun y0 => mV (.sl 3 (.int .i64)) .s (st 1) fun y1 => mV (.int .i64) .s (st 5) fun y5 => loopN (B_ref05_SameInts_4 (fun e4 => K .ret (St.ofList [(4, (.v .bool .s e4))])) (K (.exit 0) (St.ofList []))) (fuel_ref05_SameInts_4 ⟨y0, y1, y5⟩) ⟨y0, y1, y5⟩)
  | _, _ => none
theorem step_ref05_SameInts_4 (R : Type) (K : Ex → St → Option R) (rec : St → Option R) (x : X_ref05_SameInts_4) : evC env_ref05_SameInts lp_ref05_SameInts inl0 c_ref05_SameInts_4 (S_ref05_SameInts_4 x) (fun e st => match e with | .normal => coerce [(0, false), (1, false), (5, false)] st rec | e => coerce (out_ref05_SameInts_4 e) st (K e)) = B_ref05_SameInts_4 (fun e4 => K .ret (St.ofList [(4, (.v .bool .s e4))])) (K (.exit 0) (St.ofList [])) (fun x => rec (S_ref05_SameInts_4 x)) x := by kernel_rfl
theorem ok_ref05_SameInts_4 : LoopOk env_ref05_SameInts lp_ref05_SameInts inl0 c_ref05_SameInts_4 := by
  refine loopOk_of (hd := [(0, false), (1, false), (5, false)]) (out := out_ref05_SameInts_4) (S := S_ref05_SameInts_4) (fun _ K => B_ref05_SameInts_4 (fun e4 => K .ret (St.ofList [(4, (.v .bool .s e4))])) (K (.exit 0) (St.ofList []))) fuel_ref05_SameInts_4 4 step_ref05_SameInts_4 (by kernel_rfl) (fun R K => fun st => mV (.sl 3 (.int .i64)) .s (st 0) fun y0 => mV (.sl 3 (.int .i64)) .s (st 1) fun y1 => mV (.int .i64) .s (st 5) fun y5 => loopN (B_ref05_SameInts_4 (fun e4 => K .ret (St.ofList [(4, (.v .bool .s e4))])) (K (.exit 0) (St.ofList []))) (fuel_ref05_SameInts_4 ⟨y0, y1, y5⟩) ⟨y0, y1, y5⟩) (fun R st K => by kernel_rfl) ?_
  intro R K st r h
  obtain ⟨y0, hy0, h⟩ := mV_inv h
  obtain ⟨y1, hy1, h⟩ := mV_inv h
  obtain ⟨y5, hy5, h⟩ := mV_inv h
  exact ⟨⟨y0, y1, y5⟩, only_of_list (ofList_cons hy0 (ofList_cons hy1 (ofList_cons hy5 rfl))), h⟩
theorem loops_ref05_SameInts : LoopsOk env_ref05_SameInts lp_ref05_SameInts inl0 (body Tryz.f37.body) := by
  refine loopsOk_of (fun c hc => ?_) (fun c hc => ?_)
  · rw [show loopsL (body Tryz.f37.body) = [c_ref05_SameInts_4] by kernel_rfl] at hc
    simp only [List.mem_cons, List.not_mem_nil, or_false] at hc
    rcases hc with rfl
    · exact ok_ref05_SameInts_4
  · rw [show joinsL env_ref05_SameInts (body Tryz.f37.body) = [] by kernel_rfl] at hc; cases hc
noncomputable def p_ref05_SameInts {R : Type} (a0 : List (Int)) (a1 : List (Int)) (K : Bool → Option R) : Option R :=
  let v1 := ((List.length a0 : Nat) : Int)
  let v2 := ((List.length a1 : Nat) : Int)
  let v3 := v1 != v2
  cond v3
  (K false)
  (loopN (B_ref05_SameInts_4 (fun w4 =>
  K w4) (K true)) (fuel_ref05_SameInts_4 ⟨a0, a1, (0 : Int)⟩) ⟨a0, a1, (0 : Int)⟩)
noncomputable def cs_ref05_SameInts : CSpec := { ins := [(.val (.sl 3 (.int .i64)) .s), (.val (.sl 3 (.int .i64)) .s)], outs := [(.bool, .s)], fn := fun (d : (List (Int)) × (List (Int)) × Unit) K _ => p_ref05_SameInts d.1 d.2.1 (fun r0 => K ((r0, ()) : Bool × Unit) ((()) : Unit)) }
theorem h_ref05_SameInts : Holds Tryz.prog 37 cs_ref05_SameInts := by
  refine holds_of (env := env_ref05_SameInts) (inl := inl0) (fn := Tryz.f37) (code := body Tryz.f37.body) (rs := [(4, none)]) (lp := lp_ref05_SameInts) mixed ⟨envTyOk.ty, envTyOk.eq⟩ (fun _ _ _ h => by cases h) inl0_ok Tryz.func37 (by kernel_rfl) (by kernel_rfl) (by kernel_rfl) (by kernel_rfl) (by kernel_rfl) loops_ref05_SameInts (by kernel_rfl) ?_
  intro d R K Kp res h
  have : evC env_ref05_SameInts lp_ref05_SameInts inl0 (body Tryz.f37.body) (St.start cs_ref05_SameInts.ins d) (retK env_ref05_SameInts cs_ref05_SameInts.ins cs_ref05_SameInts.outs [(4, none)] cs_ref05_SameInts.pan K Kp) = cs_ref05_SameInts.fn d K Kp := by kernel_rfl
  rw [this]; exact h
-- f38 trammel/trammelref05.Same
noncomputable def gam_ref05_Same : FuncId → List FuncId → Option CSpec
  | 37, [] => some cs_ref05_SameInts
  | _, _ => none
noncomputable def fz_ref05_Same : Nat → Bool
  | 2 => true
  | 3 => true
  | _ => false
noncomputable def env_ref05_Same : Env := { ty := envTy, eq := envEq, gam := gam_ref05_Same, n := Tryz.f38.ntmps, fz := fz_ref05_Same }
theorem gamOk_ref05_Same : EnvFn Tryz.prog env_ref05_Same := by
  intro f gs c h
  unfold env_ref05_Same gam_ref05_Same at h
  simp only at h
  split at h <;> first | (cases h; done) | (cases h; exact h_ref05_SameInts)
noncomputable def p_ref05_Same {R : Type} (a0 : (List (Int)) × (List (Int)) × Unit) (a1 : (List (Int)) × (List (Int)) × Unit) (K : Bool → Option R) : Option R :=
  p_ref05_SameInts a0.1 a1.1 fun r1 =>
  cond r1
  (p_ref05_SameInts a0.2.1 a1.2.1 fun r2 =>
  K r2)
  (K false)
noncomputable def cs_ref05_Same : CSpec := { ins := [(.val (.pair (.sl 3 (.int .i64)) (.pair (.sl 3 (.int .i64)) .unit)) .s), (.val (.pair (.sl 3 (.int .i64)) (.pair (.sl 3 (.int .i64)) .unit)) .s)], outs := [(.bool, .s)], fn := fun (d : ((List (Int)) × (List (Int)) × Unit) × ((List (Int)) × (List (Int)) × Unit) × Unit) K _ => p_ref05_Same d.1 d.2.1 (fun r0 => K ((r0, ()) : Bool × Unit) ((()) : Unit)) }
theorem h_ref05_Same : Holds Tryz.prog 38 cs_ref05_Same := by
  refine holds_of (env := env_ref05_Same) (inl := inl0) (fn := Tryz.f38) (code := body Tryz.f38.body) (rs := [(4, none)]) (lp := lp0) mixed ⟨envTyOk.ty, envTyOk.eq⟩ gamOk_ref05_Same inl0_ok Tryz.func38 (by kernel_rfl) (by kernel_rfl) (by kernel_rfl) (by kernel_rfl) (by kernel_rfl) (loopsOk_none (by kernel_rfl) (by kernel_rfl)) (by kernel_rfl) ?_
  intro d R K Kp res h
  have : evC env_ref05_Same lp0 inl0 (body Tryz.f38.body) (St.start cs_ref05_Same.ins d) (retK env_ref05_Same cs_ref05_Same.ins cs_ref05_Same.outs [(4, none)] cs_ref05_Same.pan K Kp) = cs_ref05_Same.fn d K Kp := by kernel_rfl
  rw [this]; exact h
-- f56 trammel/trammelref06.Same
noncomputable def gam_ref06_Same : FuncId → List FuncId → Option CSpec
  | 37, [] => some cs_ref05_SameInts
  | _, _ => none
noncomputable def fz_ref06_Same : Nat → Bool
  | 2 => true
  | 3 => true
  | _ => false
noncomputable def env_ref06_Same : Env := { ty := envTy, eq := envEq, gam := gam_ref06_Same, n := Tryz.f56.ntmps, fz := fz_ref06_Same }
theorem gamOk_ref06_Same : EnvFn Tryz.prog env_ref06_Same := by
  intro f gs c h
  unfold env_ref06_Same gam_ref06_Same at h
  simp only at h
  split at h <;> first | (cases h; done) | (cases h; exact h_ref05_SameInts)
noncomputable def p_ref06_Same {R : Type} (a0 : (Int) × (Int) × (Int) × (Int) × (List (Int)) × Unit) (a1 : (Int) × (Int) × (Int) × (Int) × (List (Int)) × Unit) (K : Bool → Option R) : Option R :=
  let v1 := a0.1 == a1.1
  cond v1
  (let v2 := a0.2.1 == a1.2.1
  cond v2
  (let v3 := a0.2.2.1 == a1.2.2.1
  cond v3
  (let v4 := a0.2.2.2.1 == a1.2.2.2.1
  cond v4
  (p_ref05_SameInts a0.2.2.2.2.1 a1.2.2.2.2.1 fun r5 =>
  K r5)
  (K false))
  (K false))
  (K false))
  (K false)
noncomputable def cs_ref06_Same : CSpec := { ins := [(.val (.pair (.int .i64) (.pair (.int .i64) Ty11)) .s), (.val (.pair (.int .i64) (.pair (.int .i64) Ty11)) .s)], outs := [(.bool, .s)], fn := fun (d : ((Int) × (Int) × (Int) × (Int) × (List (Int)) × Unit) × ((Int) × (Int) × (Int) × (Int) × (List (Int)) × Unit) × Unit) K _ => p_ref06_Same d.1 d.2.1 (fun r0 => K ((r0, ()) : Bool × Unit) ((()) : Unit)) }
theorem h_ref06_Same : Holds Tryz.prog 56 cs_ref06_Same := by
  refine holds_of (env := env_ref06_Same) (inl := inl0) (fn := Tryz.f56) (code := body Tryz.f56.body) (rs := [(4, none)]) (lp := lp0) mixed ⟨envTyOk.ty, envTyOk.eq⟩ gamOk_ref06_Same inl0_ok Tryz.func56 (by kernel_rfl) (by kernel_rfl) (by kernel_rfl) (by kernel_rfl) (by kernel_rfl) (loopsOk_none (by kernel_rfl) (by kernel_rfl)) (by kernel_rfl) ?_
  intro d R K Kp res h
  have : evC env_ref06_Same lp0 inl0 (body Tryz.f56.body) (St.start cs_ref06_Same.ins d) (retK env_ref06_Same cs_ref06_Same.ins cs_ref06_Same.outs [(4, none)] cs_ref06_Same.pan K Kp) = cs_ref06_Same.fn d K Kp := by kernel_rfl
  rw [this]; exact h
-- f39 trammel/trammelref06.SameAll
noncomputable def gam_ref06_SameAll : FuncId → List FuncId → Option CSpec
  | 56, [] => some cs_ref06_Same
  | _, _ => none
noncomputable def env_ref06_SameAll : Env := { ty := envTy, eq := envEq, gam := gam_ref06_SameAll, n := Tryz.f39.ntmps }
theorem gamOk_ref06_SameAll : EnvFn Tryz.prog env_ref06_SameAll := by
  intro f gs c h
  unfold env_ref06_SameAll gam_ref06_SameAll at h
  simp only at h
  split at h <;> first | (cases h; done) | (cases h; exact h_ref06_Same)
structure X_ref06_SameAll_4 where
  f0 : List ((Int) × (Int) × (Int) × (Int) × (List (Int)) × Unit)
  f1 : List ((Int) × (Int) × (Int) × (Int) × (List (Int)) × Unit)
  f5 : Int

noncomputable def B_ref06_SameAll_4 {R : Type} (k_ret : Bool → Option R) (k_exit_0 : Option R) (rec : X_ref06_SameAll_4 → Option R) (x : X_ref06_SameAll_4) : Option R :=
  let v1 := ((List.length x.f0 : Nat) : Int)
  let v2 := decide (x.f5 < v1)
  cond v2
  (cond (inB x.f5 (List.length x.f0))
  (let v3 := List.getD x.f0 x.f5.toNat ((0 : Int), ((0 : Int), ((0 : Int), ((0 : Int), (([] : List (Int)), ())))))
  cond (inB x.f5 (List.length x.f1))
  (let v4 := List.getD x.f1 x.f5.toNat ((0 : Int), ((0 : Int), ((0 : Int), ((0 : Int), (([] : List (Int)), ())))))
  p_ref06_Same v3 v4 fun r5 =>
  let v6 := !r5
  cond v6
  (k_ret false)
  (let v7 := IntKind.i64.wrap (x.f5 + (1 : Int))
  rec ⟨x.f0, x.f1, v7⟩)) none) none)
  (k_exit_0)
noncomputable def S_ref06_SameAll_4 (x : X_ref06_SameAll_4) : St := St.ofList [(0, (.v (.sl 118 (.pair (.int .i64) (.pair (.int .i64) Ty11))) .s x.f0)), (1, (.v (.sl 118 (.pair (.int .i64) (.pair (.int .i64) Ty11))) .s x.f1)), (5, (.v (.int .i64) .s x.f5))]
def out_ref06_SameAll_4 : Ex → List (Nat × Bool) | .ret => [(4, false)] | .exit 0 => [] | _ => []
noncomputable def fuel_ref06_SameAll_4 (x : X_ref06_SameAll_4) : Nat := fuel64
noncomputable def c_ref06_SameAll_4 : Code := match loopAt 4 (body Tryz.f39.body) with | some c => c | none => .skip
noncomputable def lp_ref06_SameAll : Loops := fun z i R st K => match z, i with
  | false, 4 => coerce [(0, false), (1, false), (5, false)] st (fun st => mV (.sl 118 (.pair (.int .i64) (.pair (.int .i64) Ty11))) .s (st 0) fun y0 => mV (.sl 118 (.pair (.int .i64) (.pair (.int .i64) Ty11))) .s (st 1) fun y1 => mV (.int .i64) .s (st 5) fun y5 => loopN (B_ref06_SameAll_4 (fun e4 => K .ret (St.ofList [(4, (.v .bool .s e4))])) (K (.exit 0) (St.ofList []))) (fuel_ref06_SameAll_4 ⟨y0, y1, y5⟩) ⟨y0, y1, y5⟩)
  | _, _ => none
theorem step_ref06_SameAll_4 (R : Type) (K : Ex → St → Option R) (rec : St → Option R) (x : X_ref06_SameAll_4) : evC env_ref06_SameAll lp_ref06_SameAll inl0 c_ref06_SameAll_4 (S_ref06_SameAll_4 x) (fun e st => match e with | .normal => coerce [(0, false), (1, false), (5, false)] st rec | e => coerce (out_ref06_SameAll_4 e) st (K e)) = B_ref06_SameAll_4 (fun e4 => K .ret (St.ofList [(4, (.v .bool .s e4))])) (K (.exit 0) (St.ofList [])) (fun x => rec (S_ref06_SameAll_4 x)) x := by kernel_rfl
theorem ok_ref06_SameAll_4 : LoopOk env_ref06_SameAll lp_ref06_SameAll inl0 c_ref06_SameAll_4 := by
  refine loopOk_of (hd := [(0, false), (1, false), (5, false)]) (out := out_ref06_SameAll_4) (S := S_ref06_SameAll_4) (fun _ K => B_ref06_SameAll_4 (fun e4 => K .ret (St.ofList [(4, (.v .bool .s e4))])) (K (.exit 0) (St.ofList []))) fuel_ref06_SameAll_4 4 step_ref06_SameAll_4 (by kernel_rfl) (fun R K => fun st => mV (.sl 118 (.pair (.int .i64) (.pair (.int .i64) Ty11))) .s (st 0) fun y0 => mV (.sl 118 (.pair (.int .i64) (.pair (.int .i64) Ty11))) .s (st 1) fun y1 => mV (.int .i64) .s (st 5) fun y5 => loopN (B_ref06_SameAll_4 (fun e4 => K .ret (St.ofList [(4, (.v .bool .s e4))])) (K (.exit 0) (St.ofList []))) (fuel_ref06_SameAll_4 ⟨y0, y1, y5⟩) ⟨y0, y1, y5⟩) (fun R st K => by kernel_rfl) ?_
  intro R K st r h
  obtain ⟨y0, hy0, h⟩ := mV_inv h
  obtain ⟨y1, hy1, h⟩ := mV_inv h
  obtain ⟨y5, hy5, h⟩ := mV_inv h
  exact ⟨⟨y0, y1, y5⟩, only_of_list (ofList_cons hy0 (ofList_cons hy1 (ofList_cons hy5 rfl))), h⟩
theorem loops_ref06_SameAll : LoopsOk env_ref06_SameAll lp_ref06_SameAll inl0 (body Tryz.f39.body) := by
  refine loopsOk_of (fun c hc => ?_) (fun c hc => ?_)
  · rw [show loopsL (body Tryz.f39.body) = [c_ref06_SameAll_4] by kernel_rfl] at hc
    simp only [List.mem_cons, List.not_mem_nil, or_false] at hc
    rcases hc with rfl
    · exact ok_ref06_SameAll_4
  · rw [show joinsL env_ref06_SameAll (body Tryz.f39.body) = [] by kernel_rfl] at hc; cases hc
noncomputable def p_ref06_SameAll {R : Type} (a0 : List ((Int) × (Int) × (Int) × (Int) × (List (Int)) × Unit)) (a1 : List ((Int) × (Int) × (Int) × (Int) × (List (Int)) × Unit)) (K : Bool → Option R) : Option R :=
  let v1 := ((List.length a0 : Nat) : Int)
  let v2 := ((List.length a1 : Nat) : Int)
  let v3 := v1 != v2
  cond v3
  (K false)
  (loopN (B_ref06_SameAll_4 (fun w4 =>
  K w4) (K true)) (fuel_ref06_SameAll_4 ⟨a0, a1, (0 : Int)⟩) ⟨a0, a1, (0 : Int)⟩)
noncomputable def cs_ref06_SameAll : CSpec := { ins := [(.val (.sl 118 (.pair (.int .i64) (.pair (.int .i64) Ty11))) .s), (.val (.sl 118 (.pair (.int .i64) (.pair (.int .i64) Ty11))) .s)], outs := [(.bool, .s)], fn := fun (d : (List ((Int) × (Int) × (Int) × (Int) × (List (Int)) × Unit)) × (List ((Int) × (Int) × (Int) × (Int) × (List (Int)) × Unit)) × Unit) K _ => p_ref06_SameAll d.1 d.2.1 (fun r0 => K ((r0, ()) : Bool × Unit) ((()) : Unit)) }
theorem h_ref06_SameAll : Holds Tryz.prog 39 cs_ref06_SameAll := by
  refine holds_of (env := env_ref06_SameAll) (inl := inl0) (fn := Tryz.f39) (code := body Tryz.f39.body) (rs := [(4, none)]) (lp := lp_ref06_SameAll) mixed ⟨envTyOk.ty, envTyOk.eq⟩ gamOk_ref06_SameAll inl0_ok Tryz.func39 (by kernel_rfl) (by kernel_rfl) (by kernel_rfl) (by kernel_rfl) (by kernel_rfl) loops_ref06_SameAll (by kernel_rfl) ?_
  intro d R K Kp res h
  have : evC env_ref06_SameAll lp_ref06_SameAll inl0 (body Tryz.f39.body) (St.start cs_ref06_SameAll.ins d) (retK env_ref06_SameAll cs_ref06_SameAll.ins cs_ref06_SameAll.outs [(4, none)] cs_ref06_SameAll.pan K Kp) = cs_ref06_SameAll.fn d K Kp := by kernel_rfl
  rw [this]; exact h
-- f40 trammel/trammelref01.Same
noncomputable def env_ref01_Same : Env := { ty := envTy, eq := envEq, gam := noG, n := Tryz.f40.ntmps }
structure X_ref01_Same_4 where
  f0 : List (Int)
  f1 : List (Int)
  f5 : Int

noncomputable def B_ref01_Same_4 {R : Type} (k_ret : Bool → Option R) (k_exit_0 : Option R) (rec : X_ref01_Same_4 → Option R) (x : X_ref01_Same_4) : Option R :=
  let v1 := ((List.length x.f0 : Nat) : Int)
  let v2 := decide (x.f5 < v1)
  cond v2
  (cond (inB x.f5 (List.length x.f0))
  (let v3 := List.getD x.f0 x.f5.toNat (0 : Int)
  cond (inB x.f5 (List.length x.f1))
  (let v4 := List.getD x.f1 x.f5.toNat (0 : Int)
  let v5 := v3 != v4
  cond v5
  (k_ret false)
  (let v6 := IntKind.i64.wrap (x.f5 + (1 : Int))
  rec ⟨x.f0, x.f1, v6⟩)) none) none)
  (k_exit_0)
noncomputable def S_ref01_Same_4 (x : X_ref01_Same_4) : St := St.ofList [(0, (.v (.sl 5 (.int .u8)) .s x.f0)), (1, (.v (.sl 5 (.int .u8)) .s x.f1)), (5, (.v (.int .i64) .s x.f5))]
def out_ref01_Same_4 : Ex → List (Nat × Bool) | .ret => [(4, false)] | .exit 0 => [] | _ => []
noncomputable def fuel_ref01_Same_4 (x : X_ref01_Same_4) : Nat := fuel64
noncomputable def c_ref01_Same_4 : Code := match loopAt 4 (body Tryz.f40.body) with | some c => c | none => .skip
noncomputable def lp_ref01_Same : Loops := fun z i R st K => match z, i with
  | false, 4 => coerce [(0, false), (1, false), (5, false)] st (fun st => mV (.sl 5 (.int .u8)) .s (st 0) fun y0 => mV (.sl 5 (.int .u8)) .s (st 1) fun y1 => mV (.int .i64) .s (st 5) fun y5 => loopN (B_ref01_Same_4 (fun e4 => K .ret (St.ofList [(4, (.v .bool .s e4))])) (K (.exit 0) (St.ofList []))) (fuel_ref01_Same_4 ⟨y0, y1, y5⟩) ⟨y0, y1, y5⟩)
  | _, _ => none
theorem step_ref01_Same_4 (R : Type) (K : Ex → St → Option R) (rec : St → Option R) (x : X_ref01_Same_4) : evC env_ref01_Same lp_ref01_Same inl0 c_ref01_Same_4 (S_ref01_Same_4 x) (fun e st => match e with | .normal => coerce [(0, false), (1, false), (5, false)] st rec | e => coerce (out_ref01_Same_4 e) st (K e)) = B_ref01_Same_4 (fun e4 => K .ret (St.ofList [(4, (.v .bool .s e4))])) (K (.exit 0) (St.ofList [])) (fun x => rec (S_ref01_Same_4 x)) x := by kernel_rfl
theorem ok_ref01_Same_4 : LoopOk env_ref01_Same lp_ref01_Same inl0 c_ref01_Same_4 := by
  refine loopOk_of (hd := [(0, false), (1, false), (5, false)]) (out := out_ref01_Same_4) (S := S_ref01_Same_4) (fun _ K => B_ref01_Same_4 (fun e4 => K .ret (St.ofList [(4, (.v .bool .s e4))])) (K (.exit 0) (St.ofList []))) fuel_ref01_Same_4 4 step_ref01_Same_4 (by kernel_rfl) (fun R K => fun st => mV (.sl 5 (.int .u8)) .s (st 0) fun y0 => mV (.sl 5 (.int .u8)) .s (st 1) fun y1 => mV (.int .i64) .s (st 5) fun y5 => loopN (B_ref01_Same_4 (fun e4 => K .ret (St.ofList [(4, (.v .bool .s e4))])) (K (.exit 0) (St.ofList []))) (fuel_ref01_Same_4 ⟨y0, y1, y5⟩) ⟨y0, y1, y5⟩) (fun R st K => by kernel_rfl) ?_
  intro R K st r h
  obtain ⟨y0, hy0, h⟩ := mV_inv h
  obtain ⟨y1, hy1, h⟩ := mV_inv h
  obtain ⟨y5, hy5, h⟩ := mV_inv h
  exact ⟨⟨y0, y1, y5⟩, only_of_list (ofList_cons hy0 (ofList_cons hy1 (ofList_cons hy5 rfl))), h⟩
theorem loops_ref01_Same : LoopsOk env_ref01_Same lp_ref01_Same inl0 (body Tryz.f40.body) := by
  refine loopsOk_of (fun c hc => ?_) (fun c hc => ?_)
  · rw [show loopsL (body Tryz.f40.body) = [c_ref01_Same_4] by kernel_rfl] at hc
    simp only [List.mem_cons, List.not_mem_nil, or_false] at hc
    rcases hc with rfl
    · exact ok_ref01_Same_4
  · rw [show joinsL env_ref01_Same (body Tryz.f40.body) = [] by kernel_rfl] at hc; cases hc
noncomputable def p_ref01_Same {R : Type} (a0 : List (Int)) (a1 : List (Int)) (K : Bool → Option R) : Option R :=
  let v1 := ((List.length a0 : Nat) : Int)
  let v2 := ((List.length a1 : Nat) : Int)
  let v3 := v1 != v2
  cond v3
  (K false)
  (loopN (B_ref01_Same_4 (fun w4 =>
  K w4) (K true)) (fuel_ref01_Same_4 ⟨a0, a1, (0 : Int)⟩) ⟨a0, a1, (0 : Int)⟩)
noncomputable def cs_ref01_Same : CSpec := { ins := [(.val (.sl 5 (.int .u8)) .s), (.val (.sl 5 (.int .u8)) .s)], outs := [(.bool, .s)], fn := fun (d : (List (Int)) × (List (Int)) × Unit) K _ => p_ref01_Same d.1 d.2.1 (fun r0 => K ((r0, ()) : Bool × Unit) ((()) : Unit)) }
theorem h_ref01_Same : Holds Tryz.prog 40 cs_ref01_Same := by
  refine holds_of (env := env_ref01_Same) (inl := inl0) (fn := Tryz.f40) (code := body Tryz.f40.body) (rs := [(4, none)]) (lp := lp_ref01_Same) mixed ⟨envTyOk.ty, envTyOk.eq⟩ (fun _ _ _ h => by cases h) inl0_ok Tryz.func40 (by kernel_rfl) (by kernel_rfl) (by kernel_rfl) (by kernel_rfl) (by kernel_rfl) loops_ref01_Same (by kernel_rfl) ?_
  intro d R K Kp res h
  have : evC env_ref01_Same lp_ref01_Same inl0 (body Tryz.f40.body) (St.start cs_ref01_Same.ins d) (retK env_ref01_Same cs_ref01_Same.ins cs_ref01_Same.outs [(4, none)] cs_ref01_Same.pan K Kp) = cs_ref01_Same.fn d K Kp := by kernel_rfl
  rw [this]; exact h
end Go.Trm.G1
