import Derived.Test.YthidebepdpkgkabTrmG1a
import Derived.Test.YthidebepdpkgkabProg
import Derived.KernelRfl
set_option linter.unusedVariables false
set_option linter.unusedSimpArgs false
namespace Go.Trm.G1
open Go.Proofs
set_option maxRecDepth 100000

-- f67 slices.EqualFunc[[]trammel/api.Data,[]trammel/api.Data,trammel/api.Data,trammel/api.Data]
noncomputable def gam_slices_EqualFunc_Datag68 : FuncId → List FuncId → Option CSpec
  | 68, [] => some cs_load_Same_5
  | _, _ => none
noncomputable def fs_slices_EqualFunc_Datag68 : Nat → Bool
  | 8 => true
  | 9 => true
  | _ => false
noncomputable def env_slices_EqualFunc_Datag68 : Env := { ty := envTy, eq := envEq, gam := gam_slices_EqualFunc_Datag68, n := Try.f67.ntmps, fs := fs_slices_EqualFunc_Datag68 }
theorem gamOk_slices_EqualFunc_Datag68 : EnvFn Try.prog env_slices_EqualFunc_Datag68 := by
  intro f gs c h
  unfold env_slices_EqualFunc_Datag68 gam_slices_EqualFunc_Datag68 at h
  simp only at h
  split at h <;> first | (cases h; done) | (cases h; exact h_load_Same_5)
structure X_slices_EqualFunc_Datag68_4 where
  f1 : List ((Int) × It6)
  f15 : List ((Int) × It6)
  f16 : Int
  f17 : Int

noncomputable def B_slices_EqualFunc_Datag68_4 {R : Type} (k_ret : Bool → Option R) (k_exit_0 : Option R) (rec : X_slices_EqualFunc_Datag68_4 → Option R) (x : X_slices_EqualFunc_Datag68_4) : Option R :=
  let v1 := decide (x.f17 < x.f16)
  cond v1
  (cond (inB x.f17 (List.length x.f15))
  (let v2 := List.getD x.f15 x.f17.toNat ((0 : Int), (([] : List ((Int) × (Int) × (Int) × (Int) × (List (Int)) × Unit)), (([] : List (Int)), ())))
  cond (inB x.f17 (List.length x.f1))
  (let v3 := List.getD x.f1 x.f17.toNat ((0 : Int), (([] : List ((Int) × (Int) × (Int) × (Int) × (List (Int)) × Unit)), (([] : List (Int)), ())))
  p_load_Same_5 v2 v3 fun r4 =>
  let v5 := !r4
  cond v5
  (k_ret false)
  (let v6 := IntKind.i64.wrap (x.f17 + (1 : Int))
  rec ⟨x.f1, x.f15, x.f16, v6⟩)) none) none)
  (k_exit_0)
noncomputable def S_slices_EqualFunc_Datag68_4 (x : X_slices_EqualFunc_Datag68_4) : St := St.ofList [(1, (.v (.sl 129 (.pair (.int .i64) Ty17)) .s x.f1)), (2, (.fn 68 [] [])), (15, (.v (.sl 129 (.pair (.int .i64) Ty17)) .s x.f15)), (16, (.v (.int .i64) .s x.f16)), (17, (.v (.int .i64) .s x.f17))]
def out_slices_EqualFunc_Datag68_4 : Ex → List (Nat × Bool) | .ret => [(6, false)] | .exit 0 => [] | _ => []
noncomputable def fuel_slices_EqualFunc_Datag68_4 (x : X_slices_EqualFunc_Datag68_4) : Nat := fuel64
noncomputable def c_slices_EqualFunc_Datag68_4 : Code := match loopAt 4 (body Try.f67.body) with | some c => c | none => .skip
noncomputable def lp_slices_EqualFunc_Datag68 : Loops := fun z i R st K => match z, i with
  | false, 4 => coerce [(1, false), (2, false), (15, false), (16, false), (17, false)] st (fun st => mV (.sl 129 (.pair (.int .i64) Ty17)) .s (st 1) fun y1 => mFn 68 [] [] (st 2) (mV (.sl 129 (.pair (.int .i64) Ty17)) .s (st 15) fun y15 => mV (.int .i64) .s (st 16) fun y16 => mV (.int .i64) .s (st 17) fun y17 => loopN (B_slices_EqualFunc_Datag68_4 (fun e6 => K .ret (St.ofList [(6, (.v .bool .s e6))])) (K (.exit 0) (St.ofList []))) (fuel_slices_EqualFunc_Datag68_4 ⟨y1, y15, y16, y17⟩) ⟨y1, y15, y16, y17⟩))
  | _, _ => none
theorem step_slices_EqualFunc_Datag68_4 (R : Type) (K : Ex → St → Option R) (rec : St → Option R) (x : X_slices_EqualFunc_Datag68_4) : evC env_slices_EqualFunc_Datag68 lp_slices_EqualFunc_Datag68 inl0 c_slices_EqualFunc_Datag68_4 (S_slices_EqualFunc_Datag68_4 x) (fun e st => match e with | .normal => coerce [(1, false), (2, false), (15, false), (16, false), (17, false)] st rec | e => coerce (out_slices_EqualFunc_Datag68_4 e) st (K e)) = B_slices_EqualFunc_Datag68_4 (fun e6 => K .ret (St.ofList [(6, (.v .bool .s e6))])) (K (.exit 0) (St.ofList [])) (fun x => rec (S_slices_EqualFunc_Datag68_4 x)) x := by kernel_rfl
theorem ok_slices_EqualFunc_Datag68_4 : LoopOk env_slices_EqualFunc_Datag68 lp_slices_EqualFunc_Datag68 inl0 c_slices_EqualFunc_Datag68_4 := by
  refine loopOk_of (hd := [(1, false), (2, false), (15, false), (16, false), (17, false)]) (out := out_slices_EqualFunc_Datag68_4) (S := S_slices_EqualFunc_Datag68_4) (fun _ K => B_slices_EqualFunc_Datag68_4 (fun e6 => K .ret (St.ofList [(6, (.v .bool .s e6))])) (K (.exit 0) (St.ofList []))) fuel_slices_EqualFunc_Datag68_4 4 step_slices_EqualFunc_Datag68_4 (by kernel_rfl) (fun R K => fun st => mV (.sl 129 (.pair (.int .i64) Ty17)) .s (st 1) fun y1 => mFn 68 [] [] (st 2) (mV (.sl 129 (.pair (.int .i64) Ty17)) .s (st 15) fun y15 => mV (.int .i64) .s (st 16) fun y16 => mV (.int .i64) .s (st 17) fun y17 => loopN (B_slices_EqualFunc_Datag68_4 (fun e6 => K .ret (St.ofList [(6, (.v .bool .s e6))])) (K (.exit 0) (St.ofList []))) (fuel_slices_EqualFunc_Datag68_4 ⟨y1, y15, y16, y17⟩) ⟨y1, y15, y16, y17⟩)) (fun R st K => by kernel_rfl) ?_
  intro R K st r h
  obtain ⟨y1, hy1, h⟩ := mV_inv h
  obtain ⟨hy2, h⟩ := mFn_inv h
  obtain ⟨y15, hy15, h⟩ := mV_inv h
  obtain ⟨y16, hy16, h⟩ := mV_inv h
  obtain ⟨y17, hy17, h⟩ := mV_inv h
  exact ⟨⟨y1, y15, y16, y17⟩, only_of_list (ofList_cons hy1 (ofList_cons hy2 (ofList_cons hy15 (ofList_cons hy16 (ofList_cons hy17 rfl))))), h⟩
theorem loops_slices_EqualFunc_Datag68 : LoopsOk env_slices_EqualFunc_Datag68 lp_slices_EqualFunc_Datag68 inl0 (body Try.f67.body) := by
  refine loopsOk_of (fun c hc => ?_) (fun c hc => ?_)
  · rw [show loopsL (body Try.f67.body) = [c_slices_EqualFunc_Datag68_4] by kernel_rfl] at hc
    simp only [List.mem_cons, List.not_mem_nil, or_false] at hc
    rcases hc with rfl
    · exact ok_slices_EqualFunc_Datag68_4
  · rw [show joinsL env_slices_EqualFunc_Datag68 (body Try.f67.body) = [] by kernel_rfl] at hc; cases hc
noncomputable def p_slices_EqualFunc_Datag68 {R : Type} (a0 : List ((Int) × It6)) (a1 : List ((Int) × It6)) (K : Bool → Option R) : Option R :=
  let v1 := ((List.length a0 : Nat) : Int)
  let v2 := ((List.length a1 : Nat) : Int)
  let v3 := v1 != v2
  cond v3
  (K false)
  (let v4 := ((List.length a0 : Nat) : Int)
  loopN (B_slices_EqualFunc_Datag68_4 (fun w5 =>
  K w5) (K true)) (fuel_slices_EqualFunc_Datag68_4 ⟨a1, a0, v4, (0 : Int)⟩) ⟨a1, a0, v4, (0 : Int)⟩)
noncomputable def cs_slices_EqualFunc_Datag68 : CSpec := { ins := [(.val (.sl 129 (.pair (.int .i64) Ty17)) .s), (.val (.sl 129 (.pair (.int .i64) Ty17)) .s), (.fn 68)], outs := [(.bool, .s)], fn := fun (d : (List ((Int) × It6)) × (List ((Int) × It6)) × Unit × Unit) K _ => p_slices_EqualFunc_Datag68 d.1 d.2.1 (fun r0 => K ((r0, ()) : Bool × Unit) ((()) : Unit)) }
theorem h_slices_EqualFunc_Datag68 : Holds Try.prog 67 cs_slices_EqualFunc_Datag68 := by
  refine holds_of (env := env_slices_EqualFunc_Datag68) (inl := inl0) (fn := Try.f67) (code := body Try.f67.body) (rs := [(6, none)]) (lp := lp_slices_EqualFunc_Datag68) mixed ⟨envTyOk.ty, envTyOk.eq⟩ gamOk_slices_EqualFunc_Datag68 inl0_ok Try.func67 (by kernel_rfl) (by kernel_rfl) (by kernel_rfl) (by kernel_rfl) (by kernel_rfl) loops_slices_EqualFunc_Datag68 (by kernel_rfl) ?_
  intro d R K Kp res h
  have : evC env_slices_EqualFunc_Datag68 lp_slices_EqualFunc_Datag68 inl0 (body Try.f67.body) (St.start cs_slices_EqualFunc_Datag68.ins d) (retK env_slices_EqualFunc_Datag68 cs_slices_EqualFunc_Datag68.ins cs_slices_EqualFunc_Datag68.outs [(6, none)] cs_slices_EqualFunc_Datag68.pan K Kp) = cs_slices_EqualFunc_Datag68.fn d K Kp := by kernel_rfl
  rw [this]; exact h
-- f70 slices.EqualFunc[[]trammel/api.Custom,[]trammel/api.Custom,trammel/api.Custom,trammel/api.Custom]
noncomputable def gam_slices_EqualFunc_Customg71 : FuncId → List FuncId → Option CSpec
  | 71, [] => some cs_load_Same_6
  | _, _ => none
noncomputable def fs_slices_EqualFunc_Customg71 : Nat → Bool
  | 8 => true
  | 9 => true
  | _ => false
noncomputable def env_slices_EqualFunc_Customg71 : Env := { ty := envTy, eq := envEq, gam := gam_slices_EqualFunc_Customg71, n := Try.f70.ntmps, fs := fs_slices_EqualFunc_Customg71 }
theorem gamOk_slices_EqualFunc_Customg71 : EnvFn Try.prog env_slices_EqualFunc_Customg71 := by
  intro f gs c h
  unfold env_slices_EqualFunc_Customg71 gam_slices_EqualFunc_Customg71 at h
  simp only at h
  split at h <;> first | (cases h; done) | (cases h; exact h_load_Same_6)
structure X_slices_EqualFunc_Customg71_4 where
  f1 : List ((List UInt8) × (List (Int)) × Unit)
  f15 : List ((List UInt8) × (List (Int)) × Unit)
  f16 : Int
  f17 : Int

noncomputable def B_slices_EqualFunc_Customg71_4 {R : Type} (k_ret : Bool → Option R) (k_exit_0 : Option R) (rec : X_slices_EqualFunc_Customg71_4 → Option R) (x : X_slices_EqualFunc_Customg71_4) : Option R :=
  let v1 := decide (x.f17 < x.f16)
  cond v1
  (cond (inB x.f17 (List.length x.f15))
  (let v2 := List.getD x.f15 x.f17.toNat (([] : List UInt8), (([] : List (Int)), ()))
  cond (inB x.f17 (List.length x.f1))
  (let v3 := List.getD x.f1 x.f17.toNat (([] : List UInt8), (([] : List (Int)), ()))
  p_load_Same_6 v2 v3 fun r4 =>
  let v5 := !r4
  cond v5
  (k_ret false)
  (let v6 := IntKind.i64.wrap (x.f17 + (1 : Int))
  rec ⟨x.f1, x.f15, x.f16, v6⟩)) none) none)
  (k_exit_0)
noncomputable def S_slices_EqualFunc_Customg71_4 (x : X_slices_EqualFunc_Customg71_4) : St := St.ofList [(1, (.v (.sl 44 (.pair .str (.pair (.sl 5 (.int .u8)) .unit))) .s x.f1)), (2, (.fn 71 [] [])), (15, (.v (.sl 44 (.pair .str (.pair (.sl 5 (.int .u8)) .unit))) .s x.f15)), (16, (.v (.int .i64) .s x.f16)), (17, (.v (.int .i64) .s x.f17))]
def out_slices_EqualFunc_Customg71_4 : Ex → List (Nat × Bool) | .ret => [(6, false)] | .exit 0 => [] | _ => []
noncomputable def fuel_slices_EqualFunc_Customg71_4 (x : X_slices_EqualFunc_Customg71_4) : Nat := fuel64
noncomputable def c_slices_EqualFunc_Customg71_4 : Code := match loopAt 4 (body Try.f70.body) with | some c => c | none => .skip
noncomputable def lp_slices_EqualFunc_Customg71 : Loops := fun z i R st K => match z, i with
  | false, 4 => coerce [(1, false), (2, false), (15, false), (16, false), (17, false)] st (fun st => mV (.sl 44 (.pair .str (.pair (.sl 5 (.int .u8)) .unit))) .s (st 1) fun y1 => mFn 71 [] [] (st 2) (mV (.sl 44 (.pair .str (.pair (.sl 5 (.int .u8)) .unit))) .s (st 15) fun y15 => mV (.int .i64) .s (st 16) fun y16 => mV (.int .i64) .s (st 17) fun y17 => loopN (B_slices_EqualFunc_Customg71_4 (fun e6 => K .ret (St.ofList [(6, (.v .bool .s e6))])) (K (.exit 0) (St.ofList []))) (fuel_slices_EqualFunc_Customg71_4 ⟨y1, y15, y16, y17⟩) ⟨y1, y15, y16, y17⟩))
  | _, _ => none
theorem step_slices_EqualFunc_Customg71_4 (R : Type) (K : Ex → St → Option R) (rec : St → Option R) (x : X_slices_EqualFunc_Customg71_4) : evC env_slices_EqualFunc_Customg71 lp_slices_EqualFunc_Customg71 inl0 c_slices_EqualFunc_Customg71_4 (S_slices_EqualFunc_Customg71_4 x) (fun e st => match e with | .normal => coerce [(1, false), (2, false), (15, false), (16, false), (17, false)] st rec | e => coerce (out_slices_EqualFunc_Customg71_4 e) st (K e)) = B_slices_EqualFunc_Customg71_4 (fun e6 => K .ret (St.ofList [(6, (.v .bool .s e6))])) (K (.exit 0) (St.ofList [])) (fun x => rec (S_slices_EqualFunc_Customg71_4 x)) x := by kernel_rfl
theorem ok_slices_EqualFunc_Customg71_4 : LoopOk env_slices_EqualFunc_Customg71 lp_slices_EqualFunc_Customg71 inl0 c_slices_EqualFunc_Customg71_4 := by
  refine loopOk_of (hd := [(1, false), (2, false), (15, false), (16, false), (17, false)]) (out := out_slices_EqualFunc_Customg71_4) (S := S_slices_EqualFunc_Customg71_4) (fun _ K => B_slices_EqualFunc_Customg71_4 (fun e6 => K .ret (St.ofList [(6, (.v .bool .s e6))])) (K (.exit 0) (St.ofList []))) fuel_slices_EqualFunc_Customg71_4 4 step_slices_EqualFunc_Customg71_4 (by kernel_rfl) (fun R K => fun st => mV (.sl 44 (.pair .str (.pair (.sl 5 (.int .u8)) .unit))) .s (st 1) fun y1 => mFn 71 [] [] (st 2) (mV (.sl 44 (.pair .str (.pair (.sl 5 (.int .u8)) .unit))) .s (st 15) fun y15 => mV (.int .i64) .s (st 16) fun y16 => mV (.int .i64) .s (st 17) fun y17 => loopN (B_slices_EqualFunc_Customg71_4 (fun e6 => K .ret (St.ofList [(6, (.v .bool .s e6))])) (K (.exit 0) (St.ofList []))) (fuel_slices_EqualFunc_Customg71_4 ⟨y1, y15, y16, y17⟩) ⟨y1, y15, y16, y17⟩)) (fun R st K => by kernel_rfl) ?_
  intro R K st r h
  obtain ⟨y1, hy1, h⟩ := mV_inv h
  obtain ⟨hy2, h⟩ := mFn_inv h
  obtain ⟨y15, hy15, h⟩ := mV_inv h
  obtain ⟨y16, hy16, h⟩ := mV_inv h
  obtain ⟨y17, hy17, h⟩ := mV_inv h
  exact ⟨⟨y1, y15, y16, y17⟩, only_of_list (ofList_cons hy1 (ofList_cons hy2 (ofList_cons hy15 (ofList_cons hy16 (ofList_cons hy17 rfl))))), h⟩
theorem loops_slices_EqualFunc_Customg71 : LoopsOk env_slices_EqualFunc_Customg71 lp_slices_EqualFunc_Customg71 inl0 (body Try.f70.body) := by
  refine loopsOk_of (fun c hc => ?_) (fun c hc => ?_)
  · rw [show loopsL (body Try.f70.body) = [c_slices_EqualFunc_Customg71_4] by kernel_rfl] at hc
    simp only [List.mem_cons, List.not_mem_nil, or_false] at hc
    rcases hc with rfl
    · exact ok_slices_EqualFunc_Customg71_4
  · rw [show joinsL env_slices_EqualFunc_Customg71 (body Try.f70.body) = [] by kernel_rfl] at hc; cases hc
noncomputable def p_slices_EqualFunc_Customg71 {R : Type} (a0 : List ((List UInt8) × (List (Int)) × Unit)) (a1 : List ((List UInt8) × (List (Int)) × Unit)) (K : Bool → Option R) : Option R :=
  let v1 := ((List.length a0 : Nat) : Int)
  let v2 := ((List.length a1 : Nat) : Int)
  let v3 := v1 != v2
  cond v3
  (K false)
  (let v4 := ((List.length a0 : Nat) : Int)
  loopN (B_slices_EqualFunc_Customg71_4 (fun w5 =>
  K w5) (K true)) (fuel_slices_EqualFunc_Customg71_4 ⟨a1, a0, v4, (0 : Int)⟩) ⟨a1, a0, v4, (0 : Int)⟩)
noncomputable def cs_slices_EqualFunc_Customg71 : CSpec := { ins := [(.val (.sl 44 (.pair .str (.pair (.sl 5 (.int .u8)) .unit))) .s), (.val (.sl 44 (.pair .str (.pair (.sl 5 (.int .u8)) .unit))) .s), (.fn 71)], outs := [(.bool, .s)], fn := fun (d : (List ((List UInt8) × (List (Int)) × Unit)) × (List ((List UInt8) × (List (Int)) × Unit)) × Unit × Unit) K _ => p_slices_EqualFunc_Customg71 d.1 d.2.1 (fun r0 => K ((r0, ()) : Bool × Unit) ((()) : Unit)) }
theorem h_slices_EqualFunc_Customg71 : Holds Try.prog 70 cs_slices_EqualFunc_Customg71 := by
  refine holds_of (env := env_slices_EqualFunc_Customg71) (inl := inl0) (fn := Try.f70) (code := body Try.f70.body) (rs := [(6, none)]) (lp := lp_slices_EqualFunc_Customg71) mixed ⟨envTyOk.ty, envTyOk.eq⟩ gamOk_slices_EqualFunc_Customg71 inl0_ok Try.func70 (by kernel_rfl) (by kernel_rfl) (by kernel_rfl) (by kernel_rfl) (by kernel_rfl) loops_slices_EqualFunc_Customg71 (by kernel_rfl) ?_
  intro d R K Kp res h
  have : evC env_slices_EqualFunc_Customg71 lp_slices_EqualFunc_Customg71 inl0 (body Try.f70.body) (St.start cs_slices_EqualFunc_Customg71.ins d) (retK env_slices_EqualFunc_Customg71 cs_slices_EqualFunc_Customg71.ins cs_slices_EqualFunc_Customg71.outs [(6, none)] cs_slices_EqualFunc_Customg71.pan K Kp) = cs_slices_EqualFunc_Customg71.fn d K Kp := by kernel_rfl
  rw [this]; exact h
-- f29 trammel/load.Same
noncomputable def gam_load_Same : FuncId → List FuncId → Option CSpec
  | 54, [55] => some cs_slices_EqualFunc_FuncTypeg55
  | 57, [] => some cs_slices_Equal_Import
  | 58, [59] => some cs_slices_EqualFunc_Funcg59
  | 61, [] => some cs_slices_Equal_Limits
  | 62, [63] => some cs_slices_EqualFunc_Globalg63
  | 64, [] => some cs_slices_Equal_Export
  | 56, [] => some cs_slices_EqualInt
  | 65, [66] => some cs_slices_EqualFunc_Elemg66
  | 67, [68] => some cs_slices_EqualFunc_Datag68
  | 70, [71] => some cs_slices_EqualFunc_Customg71
  | _, _ => none
noncomputable def lv_load_Same : Nat → Option (List Nat)
  | 0 => some [0, 1]
  | 1 => some [2, 3]
  | _ => none
noncomputable def env_load_Same : Env := { ty := envTy, eq := envEq, gam := gam_load_Same, n := Try.f29.ntmps, lv := lv_load_Same }
theorem gamOk_load_Same : EnvFn Try.prog env_load_Same := by
  intro f gs c h
  unfold env_load_Same gam_load_Same at h
  simp only at h
  split at h <;> first | (cases h; done) | (cases h; exact h_slices_EqualFunc_FuncTypeg55) | (cases h; exact h_slices_Equal_Import) | (cases h; exact h_slices_EqualFunc_Funcg59) | (cases h; exact h_slices_Equal_Limits) | (cases h; exact h_slices_EqualFunc_Globalg63) | (cases h; exact h_slices_Equal_Export) | (cases h; exact h_slices_EqualInt) | (cases h; exact h_slices_EqualFunc_Elemg66) | (cases h; exact h_slices_EqualFunc_Datag68) | (cases h; exact h_slices_EqualFunc_Customg71)
noncomputable def p_load_Same {R : Type} (a0 : It10) (a1 : It10) (K : Bool → Option R) : Option R :=
  p_slices_EqualFunc_FuncTypeg55 a0.1 a1.1 fun r1 =>
  cond r1
  (p_slices_Equal_Import a0.2.1 a1.2.1 fun r2 =>
  cond r2
  (p_slices_EqualFunc_Funcg59 a0.2.2.1 a1.2.2.1 fun r3 =>
  cond r3
  (p_slices_Equal_Limits a0.2.2.2.1 a1.2.2.2.1 fun r4 =>
  cond r4
  (p_slices_Equal_Limits a0.2.2.2.2.1 a1.2.2.2.2.1 fun r5 =>
  cond r5
  (p_slices_EqualFunc_Globalg63 a0.2.2.2.2.2.1 a1.2.2.2.2.2.1 fun r6 =>
  cond r6
  (p_slices_Equal_Export a0.2.2.2.2.2.2.1 a1.2.2.2.2.2.2.1 fun r7 =>
  cond r7
  (p_slices_EqualInt a0.2.2.2.2.2.2.2.1 a1.2.2.2.2.2.2.2.1 fun r8 =>
  cond r8
  (p_slices_EqualFunc_Elemg66 a0.2.2.2.2.2.2.2.2.1 a1.2.2.2.2.2.2.2.2.1 fun r9 =>
  cond r9
  (p_slices_EqualInt a0.2.2.2.2.2.2.2.2.2.1 a1.2.2.2.2.2.2.2.2.2.1 fun r10 =>
  cond r10
  (p_slices_EqualFunc_Datag68 a0.2.2.2.2.2.2.2.2.2.2.1 a1.2.2.2.2.2.2.2.2.2.2.1 fun r11 =>
  cond r11
  (p_slices_EqualFunc_Customg71 a0.2.2.2.2.2.2.2.2.2.2.2.1 a1.2.2.2.2.2.2.2.2.2.2.2.1 fun r12 =>
  K r12)
  (K false))
  (K false))
  (K false))
  (K false))
  (K false))
  (K false))
  (K false))
  (K false))
  (K false))
  (K false))
  (K false)
noncomputable def cs_load_Same : CSpec := { ins := [(.val (.pair Ty11 Ty23) .s), (.val (.pair Ty11 Ty23) .s)], outs := [(.bool, .s)], fn := fun (d : It10 × It10 × Unit) K _ => p_load_Same d.1 d.2.1 (fun r0 => K ((r0, ()) : Bool × Unit) ((()) : Unit)) }
theorem h_load_Same : Holds Try.prog 29 cs_load_Same := by
  refine holds_of (env := env_load_Same) (inl := inl0) (fn := Try.f29) (code := body Try.f29.body) (rs := [(4, none)]) (lp := lp0) mixed ⟨envTyOk.ty, envTyOk.eq⟩ gamOk_load_Same inl0_ok Try.func29 (by kernel_rfl) (by kernel_rfl) (by kernel_rfl) (by kernel_rfl) (by kernel_rfl) (loopsOk_none (by kernel_rfl) (by kernel_rfl)) (by kernel_rfl) ?_
  intro d R K Kp res h
  have : evC env_load_Same lp0 inl0 (body Try.f29.body) (St.start cs_load_Same.ins d) (retK env_load_Same cs_load_Same.ins cs_load_Same.outs [(4, none)] cs_load_Same.pan K Kp) = cs_load_Same.fn d K Kp := by kernel_rfl
  rw [this]; exact h
-- f88 trammel/trammelref01.most
noncomputable def env_ref01_most : Env := { ty := envTy, eq := envEq, gam := noG, n := Try.f88.ntmps }
structure X_ref01_most_2 where
  f0 : Int
  f3 : Int

noncomputable def B_ref01_most_2 {R : Type} (k_exit_0 : Int → Option R) (rec : X_ref01_most_2 → Option R) (x : X_ref01_most_2) : Option R :=
  let v1 := IntKind.i64.wrap ((7 : Int) * x.f3)
  let v2 := decide (v1 < x.f0)
  cond v2
  (let v3 := IntKind.i64.wrap (x.f3 + (1 : Int))
  rec ⟨x.f0, v3⟩)
  (k_exit_0 x.f3)
noncomputable def S_ref01_most_2 (x : X_ref01_most_2) : St := St.ofList [(0, (.v (.int .i64) .s x.f0)), (3, (.v (.int .i64) .s x.f3))]
def out_ref01_most_2 : Ex → List (Nat × Bool) | .exit 0 => [(3, false)] | _ => []
noncomputable def fuel_ref01_most_2 (x : X_ref01_most_2) : Nat := fuel64
noncomputable def c_ref01_most_2 : Code := match loopAt 2 (body Try.f88.body) with | some c => c | none => .skip
noncomputable def lp_ref01_most : Loops := fun z i R st K => match z, i with
  | false, 2 => coerce [(0, false), (3, false)] st (fun st => mV (.int .i64) .s (st 0) fun y0 => mV (.int .i64) .s (st 3) fun y3 => loopN (B_ref01_most_2 (fun e3 => K (.exit 0) (St.ofList [(3, (.v (.int .i64) .s e3))]))) (fuel_ref01_most_2 ⟨y0, y3⟩) ⟨y0, y3⟩)
  | _, _ => none
theorem step_ref01_most_2 (R : Type) (K : Ex → St → Option R) (rec : St → Option R) (x : X_ref01_most_2) : evC env_ref01_most lp_ref01_most inl0 c_ref01_most_2 (S_ref01_most_2 x) (fun e st => match e with | .normal => coerce [(0, false), (3, false)] st rec | e => coerce (out_ref01_most_2 e) st (K e)) = B_ref01_most_2 (fun e3 => K (.exit 0) (St.ofList [(3, (.v (.int .i64) .s e3))])) (fun x => rec (S_ref01_most_2 x)) x := by kernel_rfl
theorem ok_ref01_most_2 : LoopOk env_ref01_most lp_ref01_most inl0 c_ref01_most_2 := by
  refine loopOk_of (hd := [(0, false), (3, false)]) (out := out_ref01_most_2) (S := S_ref01_most_2) (fun _ K => B_ref01_most_2 (fun e3 => K (.exit 0) (St.ofList [(3, (.v (.int .i64) .s e3))]))) fuel_ref01_most_2 2 step_ref01_most_2 (by kernel_rfl) (fun R K => fun st => mV (.int .i64) .s (st 0) fun y0 => mV (.int .i64) .s (st 3) fun y3 => loopN (B_ref01_most_2 (fun e3 => K (.exit 0) (St.ofList [(3, (.v (.int .i64) .s e3))]))) (fuel_ref01_most_2 ⟨y0, y3⟩) ⟨y0, y3⟩) (fun R st K => by kernel_rfl) ?_
  intro R K st r h
  obtain ⟨y0, hy0, h⟩ := mV_inv h
  obtain ⟨y3, hy3, h⟩ := mV_inv h
  exact ⟨⟨y0, y3⟩, only_of_list (ofList_cons hy0 (ofList_cons hy3 rfl)), h⟩
theorem loops_ref01_most : LoopsOk env_ref01_most lp_ref01_most inl0 (body Try.f88.body) := by
  refine loopsOk_of (fun c hc => ?_) (fun c hc => ?_)
  · rw [show loopsL (body Try.f88.body) = [c_ref01_most_2] by kernel_rfl] at hc
    simp only [List.mem_cons, List.not_mem_nil, or_false] at hc
    rcases hc with rfl
    · exact ok_ref01_most_2
  · rw [show joinsL env_ref01_most (body Try.f88.body) = [] by kernel_rfl] at hc; cases hc
noncomputable def p_ref01_most {R : Type} (a0 : Int) (K : Int → Option R) : Option R :=
  loopN (B_ref01_most_2 (fun w1 =>
  K w1)) (fuel_ref01_most_2 ⟨a0, (0 : Int)⟩) ⟨a0, (0 : Int)⟩
noncomputable def cs_ref01_most : CSpec := { ins := [(.val (.int .i64) .s)], outs := [((.int .i64), .s)], fn := fun (d : Int × Unit) K _ => p_ref01_most d.1 (fun r0 => K ((r0, ()) : Int × Unit) ((()) : Unit)) }
theorem h_ref01_most : Holds Try.prog 88 cs_ref01_most := by
  refine holds_of (env := env_ref01_most) (inl := inl0) (fn := Try.f88) (code := body Try.f88.body) (rs := [(2, none)]) (lp := lp_ref01_most) mixed ⟨envTyOk.ty, envTyOk.eq⟩ (fun _ _ _ h => by cases h) inl0_ok Try.func88 (by kernel_rfl) (by kernel_rfl) (by kernel_rfl) (by kernel_rfl) (by kernel_rfl) loops_ref01_most (by kernel_rfl) ?_
  intro d R K Kp res h
  have : evC env_ref01_most lp_ref01_most inl0 (body Try.f88.body) (St.start cs_ref01_most.ins d) (retK env_ref01_most cs_ref01_most.ins cs_ref01_most.outs [(2, none)] cs_ref01_most.pan K Kp) = cs_ref01_most.fn d K Kp := by kernel_rfl
  rw [this]; exact h
-- f86 trammel/trammelref01.Read
noncomputable def gam_ref01_Read : FuncId → List FuncId → Option CSpec
  | 88, [] => some cs_ref01_most
  | _, _ => none
noncomputable def env_ref01_Read : Env := { ty := envTy, eq := envEq, gam := gam_ref01_Read, n := Try.f86.ntmps }
theorem gamOk_ref01_Read : EnvFn Try.prog env_ref01_Read := by
  intro f gs c h
  unfold env_ref01_Read gam_ref01_Read at h
  simp only at h
  split at h <;> first | (cases h; done) | (cases h; exact h_ref01_most)
structure X_ref01_Read_10 where
  f0 : List (Int)
  f1 : Int
  f7 : List (Bool)
  f8 : Int
  f9 : Int

noncomputable def B_ref01_Read_10 {R : Type} (k_exit_2 : (List (Int)) → Int → (List (Bool)) → Int → Option R) (rec : X_ref01_Read_10 → Option R) (x : X_ref01_Read_10) : Option R :=
  let v1 := decide (x.f9 < (7 : Int))
  cond v1
  (cond (inB x.f8 (List.length x.f0))
  (let v2 := List.getD x.f0 x.f8.toNat (0 : Int)
  let v3 := IntKind.u64.wrap x.f9
  cond (decide (0 ≤ v3))
  (let v4 := shrI .u8 v2 v3
  cond ((2 : Int) != 0)
  (let v5 := Int.tmod v4 (2 : Int)
  let v6 := v5 == (1 : Int)
  let v7 := List.set (List.replicate 1 false) 0 v6
  cond (decide (List.length x.f7 + List.length v7 ≤ most))
  (let v8 := x.f7 ++ v7
  let v9 := IntKind.i64.wrap (x.f9 + (1 : Int))
  rec ⟨x.f0, x.f1, v8, x.f8, v9⟩) none) none) none) none)
  (k_exit_2 x.f0 x.f1 x.f7 x.f8)
noncomputable def S_ref01_Read_10 (x : X_ref01_Read_10) : St := St.ofList [(0, (.v (.sl 5 (.int .u8)) .s x.f0)), (1, (.v (.int .i64) .s x.f1)), (7, (.v (.sl 4 .bool) (.o .s) x.f7)), (8, (.v (.int .i64) .s x.f8)), (9, (.v (.int .i64) .s x.f9))]
def out_ref01_Read_10 : Ex → List (Nat × Bool) | .exit 2 => [(0, false), (1, false), (7, false), (8, false)] | _ => []
noncomputable def fuel_ref01_Read_10 (x : X_ref01_Read_10) : Nat := fuel64
noncomputable def c_ref01_Read_10 : Code := match loopAt 10 (body Try.f86.body) with | some c => c | none => .skip
structure X_ref01_Read_5 where
  f0 : List (Int)
  f1 : Int
  f7 : List (Bool)
  f8 : Int

noncomputable def B_ref01_Read_5 {R : Type} (k_ret : (List (Bool)) → Int → Int → Option R) (k_exit_0 : Option R) (rec : X_ref01_Read_5 → Option R) (x : X_ref01_Read_5) : Option R :=
  p_ref01_most x.f1 fun r1 =>
  let v2 := decide (x.f8 < r1)
  cond v2
  (let v3 := ((List.length x.f0 : Nat) : Int)
  let v4 := decide (x.f8 ≥ v3)
  cond v4
  (k_ret ([] : List (Bool)) (0 : Int) (1 : Int))
  (loopN (B_ref01_Read_10 (fun w5 w6 w7 w8 =>
  cond (inB w8 (List.length w5))
  (let v9 := List.getD w5 w8.toNat (0 : Int)
  let v10 := decide (v9 < (128 : Int))
  cond v10
  (let v11 := IntKind.i64.wrap (w8 + (1 : Int))
  k_ret w7 v11 (0 : Int))
  (let v12 := IntKind.i64.wrap (w8 + (1 : Int))
  rec ⟨w5, w6, w7, v12⟩)) none)) (fuel_ref01_Read_10 ⟨x.f0, x.f1, x.f7, x.f8, (0 : Int)⟩) ⟨x.f0, x.f1, x.f7, x.f8, (0 : Int)⟩))
  (k_exit_0)
noncomputable def S_ref01_Read_5 (x : X_ref01_Read_5) : St := St.ofList [(0, (.v (.sl 5 (.int .u8)) .s x.f0)), (1, (.v (.int .i64) .s x.f1)), (7, (.v (.sl 4 .bool) (.o .s) x.f7)), (8, (.v (.int .i64) .s x.f8))]
def out_ref01_Read_5 : Ex → List (Nat × Bool) | .ret => [(4, false), (5, false), (6, false)] | .exit 0 => [] | _ => []
noncomputable def fuel_ref01_Read_5 (x : X_ref01_Read_5) : Nat := fuel64
noncomputable def c_ref01_Read_5 : Code := match loopAt 5 (body Try.f86.body) with | some c => c | none => .skip
noncomputable def lp_ref01_Read : Loops := fun z i R st K => match z, i with
  | false, 10 => coerce [(0, false), (1, false), (7, false), (8, false), (9, false)] st (fun st => mV (.sl 5 (.int .u8)) .s (st 0) fun y0 => mV (.int .i64) .s (st 1) fun y1 => mV (.sl 4 .bool) (.o .s) (st 7) fun y7 => mV (.int .i64) .s (st 8) fun y8 => mV (.int .i64) .s (st 9) fun y9 => loopN (B_ref01_Read_10 (fun e0 e1 e7 e8 => K (.exit 2) (St.ofList [(0, (.v (.sl 5 (.int .u8)) .s e0)), (1, (.v (.int .i64) .s e1)), (7, (.v (.sl 4 .bool) (.o .s) e7)), (8, (.v (.int .i64) .s e8))]))) (fuel_ref01_Read_10 ⟨y0, y1, y7, y8, y9⟩) ⟨y0, y1, y7, y8, y9⟩)
  | false, 5 => coerce [(0, false), (1, false), (7, false), (8, false)] st (fun st => mV (.sl 5 (.int .u8)) .s (st 0) fun y0 => mV (.int .i64) .s (st 1) fun y1 => mV (.sl 4 .bool) (.o .s) (st 7) fun y7 => mV (.int .i64) .s (st 8) fun y8 => loopN (B_ref01_Read_5 (fun e4 e5 e6 => K .ret (St.ofList [(4, (.v (.sl 4 .bool) (.o .s) e4)), (5, (.v (.int .i64) .s e5)), (6, (.v (.int .i64) .s e6))])) (K (.exit 0) (St.ofList []))) (fuel_ref01_Read_5 ⟨y0, y1, y7, y8⟩) ⟨y0, y1, y7, y8⟩)
  | _, _ => none
theorem step_ref01_Read_10 (R : Type) (K : Ex → St → Option R) (rec : St → Option R) (x : X_ref01_Read_10) : evC env_ref01_Read lp_ref01_Read inl0 c_ref01_Read_10 (S_ref01_Read_10 x) (fun e st => match e with | .normal => coerce [(0, false), (1, false), (7, false), (8, false), (9, false)] st rec | e => coerce (out_ref01_Read_10 e) st (K e)) = B_ref01_Read_10 (fun e0 e1 e7 e8 => K (.exit 2) (St.ofList [(0, (.v (.sl 5 (.int .u8)) .s e0)), (1, (.v (.int .i64) .s e1)), (7, (.v (.sl 4 .bool) (.o .s) e7)), (8, (.v (.int .i64) .s e8))])) (fun x => rec (S_ref01_Read_10 x)) x := by kernel_rfl
theorem ok_ref01_Read_10 : LoopOk env_ref01_Read lp_ref01_Read inl0 c_ref01_Read_10 := by
  refine loopOk_of (hd := [(0, false), (1, false), (7, false), (8, false), (9, false)]) (out := out_ref01_Read_10) (S := S_ref01_Read_10) (fun _ K => B_ref01_Read_10 (fun e0 e1 e7 e8 => K (.exit 2) (St.ofList [(0, (.v (.sl 5 (.int .u8)) .s e0)), (1, (.v (.int .i64) .s e1)), (7, (.v (.sl 4 .bool) (.o .s) e7)), (8, (.v (.int .i64) .s e8))]))) fuel_ref01_Read_10 10 step_ref01_Read_10 (by kernel_rfl) (fun R K => fun st => mV (.sl 5 (.int .u8)) .s (st 0) fun y0 => mV (.int .i64) .s (st 1) fun y1 => mV (.sl 4 .bool) (.o .s) (st 7) fun y7 => mV (.int .i64) .s (st 8) fun y8 => mV (.int .i64) .s (st 9) fun y9 => loopN (B_ref01_Read_10 (fun e0 e1 e7 e8 => K (.exit 2) (St.ofList [(0, (.v (.sl 5 (.int .u8)) .s e0)), (1, (.v (.int .i64) .s e1)), (7, (.v (.sl 4 .bool) (.o .s) e7)), (8, (.v (.int .i64) .s e8))]))) (fuel_ref01_Read_10 ⟨y0, y1, y7, y8, y9⟩) ⟨y0, y1, y7, y8, y9⟩) (fun R st K => by kernel_rfl) ?_
  intro R K st r h
  obtain ⟨y0, hy0, h⟩ := mV_inv h
  obtain ⟨y1, hy1, h⟩ := mV_inv h
  obtain ⟨y7, hy7, h⟩ := mV_inv h
  obtain ⟨y8, hy8, h⟩ := mV_inv h
  obtain ⟨y9, hy9, h⟩ := mV_inv h
  exact ⟨⟨y0, y1, y7, y8, y9⟩, only_of_list (ofList_cons hy0 (ofList_cons hy1 (ofList_cons hy7 (ofList_cons hy8 (ofList_cons hy9 rfl))))), h⟩
theorem step_ref01_Read_5 (R : Type) (K : Ex → St → Option R) (rec : St → Option R) (x : X_ref01_Read_5) : evC env_ref01_Read lp_ref01_Read inl0 c_ref01_Read_5 (S_ref01_Read_5 x) (fun e st => match e with | .normal => coerce [(0, false), (1, false), (7, false), (8, false)] st rec | e => coerce (out_ref01_Read_5 e) st (K e)) = B_ref01_Read_5 (fun e4 e5 e6 => K .ret (St.ofList [(4, (.v (.sl 4 .bool) (.o .s) e4)), (5, (.v (.int .i64) .s e5)), (6, (.v (.int .i64) .s e6))])) (K (.exit 0) (St.ofList [])) (fun x => rec (S_ref01_Read_5 x)) x := by kernel_rfl
theorem ok_ref01_Read_5 : LoopOk env_ref01_Read lp_ref01_Read inl0 c_ref01_Read_5 := by
  refine loopOk_of (hd := [(0, false), (1, false), (7, false), (8, false)]) (out := out_ref01_Read_5) (S := S_ref01_Read_5) (fun _ K => B_ref01_Read_5 (fun e4 e5 e6 => K .ret (St.ofList [(4, (.v (.sl 4 .bool) (.o .s) e4)), (5, (.v (.int .i64) .s e5)), (6, (.v (.int .i64) .s e6))])) (K (.exit 0) (St.ofList []))) fuel_ref01_Read_5 5 step_ref01_Read_5 (by kernel_rfl) (fun R K => fun st => mV (.sl 5 (.int .u8)) .s (st 0) fun y0 => mV (.int .i64) .s (st 1) fun y1 => mV (.sl 4 .bool) (.o .s) (st 7) fun y7 => mV (.int .i64) .s (st 8) fun y8 => loopN (B_ref01_Read_5 (fun e4 e5 e6 => K .ret (St.ofList [(4, (.v (.sl 4 .bool) (.o .s) e4)), (5, (.v (.int .i64) .s e5)), (6, (.v (.int .i64) .s e6))])) (K (.exit 0) (St.ofList []))) (fuel_ref01_Read_5 ⟨y0, y1, y7, y8⟩) ⟨y0, y1, y7, y8⟩) (fun R st K => by kernel_rfl) ?_
  intro R K st r h
  obtain ⟨y0, hy0, h⟩ := mV_inv h
  obtain ⟨y1, hy1, h⟩ := mV_inv h
  obtain ⟨y7, hy7, h⟩ := mV_inv h
  obtain ⟨y8, hy8, h⟩ := mV_inv h
  exact ⟨⟨y0, y1, y7, y8⟩, only_of_list (ofList_cons hy0 (ofList_cons hy1 (ofList_cons hy7 (ofList_cons hy8 rfl)))), h⟩
theorem loops_ref01_Read : LoopsOk env_ref01_Read lp_ref01_Read inl0 (body Try.f86.body) := by
  refine loopsOk_of (fun c hc => ?_) (fun c hc => ?_)
  · rw [show loopsL (body Try.f86.body) = [c_ref01_Read_5, c_ref01_Read_10] by kernel_rfl] at hc
    simp only [List.mem_cons, List.not_mem_nil, or_false] at hc
    rcases hc with rfl | rfl
    · exact ok_ref01_Read_5
    · exact ok_ref01_Read_10
  · rw [show joinsL env_ref01_Read (body Try.f86.body) = [] by kernel_rfl] at hc; cases hc
noncomputable def p_ref01_Read {R : Type} (a0 : List (Int)) (a1 : Int) (K : (List (Bool)) → Int → Int → Option R) : Option R :=
  let v1 := decide (a1 < (1 : Int))
  cond v1
  (K ([] : List (Bool)) (0 : Int) (5 : Int))
  (let v2 := decide (a1 > (64 : Int))
  cond v2
  (K ([] : List (Bool)) (0 : Int) (5 : Int))
  (loopN (B_ref01_Read_5 (fun w3 w4 w5 =>
  K w3 w4 w5) (K ([] : List (Bool)) (0 : Int) (2 : Int))) (fuel_ref01_Read_5 ⟨a0, a1, ([] : List (Bool)), (0 : Int)⟩) ⟨a0, a1, ([] : List (Bool)), (0 : Int)⟩))
noncomputable def cs_ref01_Read : CSpec := { ins := [(.val (.sl 5 (.int .u8)) .s), (.val (.int .i64) .s)], outs := [((.sl 4 .bool), (.o .s)), ((.int .i64), .s), ((.int .i64), .s)], fn := fun (d : (List (Int)) × Int × Unit) K _ => p_ref01_Read d.1 d.2.1 (fun r0 r1 r2 => K ((r0, r1, r2, ()) : (List (Bool)) × Int × Int × Unit) ((()) : Unit)) }
theorem h_ref01_Read : Holds Try.prog 86 cs_ref01_Read := by
  refine holds_of (env := env_ref01_Read) (inl := inl0) (fn := Try.f86) (code := body Try.f86.body) (rs := [(4, none), (5, none), (6, none)]) (lp := lp_ref01_Read) mixed ⟨envTyOk.ty, envTyOk.eq⟩ gamOk_ref01_Read inl0_ok Try.func86 (by kernel_rfl) (by kernel_rfl) (by kernel_rfl) (by kernel_rfl) (by kernel_rfl) loops_ref01_Read (by kernel_rfl) ?_
  intro d R K Kp res h
  have : evC env_ref01_Read lp_ref01_Read inl0 (body Try.f86.body) (St.start cs_ref01_Read.ins d) (retK env_ref01_Read cs_ref01_Read.ins cs_ref01_Read.outs [(4, none), (5, none), (6, none)] cs_ref01_Read.pan K Kp) = cs_ref01_Read.fn d K Kp := by kernel_rfl
  rw [this]; exact h
-- f80 trammel/trammelref01.U
noncomputable def gam_ref01_U : FuncId → List FuncId → Option CSpec
  | 86, [] => some cs_ref01_Read
  | _, _ => none
noncomputable def env_ref01_U : Env := { ty := envTy, eq := envEq, gam := gam_ref01_U, n := Try.f80.ntmps }
theorem gamOk_ref01_U : EnvFn Try.prog env_ref01_U := by
  intro f gs c h
  unfold env_ref01_U gam_ref01_U at h
  simp only at h
  split at h <;> first | (cases h; done) | (cases h; exact h_ref01_Read)
structure X_ref01_U_6 where
  f1 : Int
  f7 : List (Bool)
  f8 : Int
  f10 : Int
  f11 : Int

noncomputable def B_ref01_U_6 {R : Type} (k_ret : Int → Int → Int → Option R) (k_exit_0 : Int → Int → Option R) (rec : X_ref01_U_6 → Option R) (x : X_ref01_U_6) : Option R :=
  let v1 := ((List.length x.f7 : Nat) : Int)
  let v2 := decide (x.f11 < v1)
  cond v2
  (cond (inB x.f11 (List.length x.f7))
  (let v3 := (List.getD x.f7 x.f11.toNat false)
  let v4 := !v3
  cond v4
  (let v5 := IntKind.i64.wrap (x.f11 + (1 : Int))
  rec ⟨x.f1, x.f7, x.f8, x.f10, v5⟩)
  (let v6 := decide (x.f11 ≥ x.f1)
  cond v6
  (k_ret (0 : Int) (0 : Int) (2 : Int))
  (let v7 := IntKind.u64.wrap x.f11
  cond (decide (0 ≤ v7))
  (let v8 := shlI .u64 (1 : Int) v7
  let v9 := IntKind.u64.wrap (x.f10 + v8)
  let v10 := IntKind.i64.wrap (x.f11 + (1 : Int))
  rec ⟨x.f1, x.f7, x.f8, v9, v10⟩) none))) none)
  (k_exit_0 x.f8 x.f10)
noncomputable def S_ref01_U_6 (x : X_ref01_U_6) : St := St.ofList [(1, (.v (.int .i64) .s x.f1)), (7, (.v (.sl 4 .bool) (.o .s) x.f7)), (8, (.v (.int .i64) .s x.f8)), (10, (.v (.int .u64) .s x.f10)), (11, (.v (.int .i64) .s x.f11))]
def out_ref01_U_6 : Ex → List (Nat × Bool) | .ret => [(4, false), (5, false), (6, false)] | .exit 0 => [(8, false), (10, false)] | _ => []
noncomputable def fuel_ref01_U_6 (x : X_ref01_U_6) : Nat := fuel64
noncomputable def c_ref01_U_6 : Code := match loopAt 6 (body Try.f80.body) with | some c => c | none => .skip
noncomputable def lp_ref01_U : Loops := fun z i R st K => match z, i with
  | false, 6 => coerce [(1, false), (7, false), (8, false), (10, false), (11, false)] st (fun st => mV (.int .i64) .s (st 1) fun y1 => mV (.sl 4 .bool) (.o .s) (st 7) fun y7 => mV (.int .i64) .s (st 8) fun y8 => mV (.int .u64) .s (st 10) fun y10 => mV (.int .i64) .s (st 11) fun y11 => loopN (B_ref01_U_6 (fun e4 e5 e6 => K .ret (St.ofList [(4, (.v (.int .u64) .s e4)), (5, (.v (.int .i64) .s e5)), (6, (.v (.int .i64) .s e6))])) (fun e8 e10 => K (.exit 0) (St.ofList [(8, (.v (.int .i64) .s e8)), (10, (.v (.int .u64) .s e10))]))) (fuel_ref01_U_6 ⟨y1, y7, y8, y10, y11⟩) ⟨y1, y7, y8, y10, y11⟩)
  | _, _ => none
theorem step_ref01_U_6 (R : Type) (K : Ex → St → Option R) (rec : St → Option R) (x : X_ref01_U_6) : evC env_ref01_U lp_ref01_U inl0 c_ref01_U_6 (S_ref01_U_6 x) (fun e st => match e with | .normal => coerce [(1, false), (7, false), (8, false), (10, false), (11, false)] st rec | e => coerce (out_ref01_U_6 e) st (K e)) = B_ref01_U_6 (fun e4 e5 e6 => K .ret (St.ofList [(4, (.v (.int .u64) .s e4)), (5, (.v (.int .i64) .s e5)), (6, (.v (.int .i64) .s e6))])) (fun e8 e10 => K (.exit 0) (St.ofList [(8, (.v (.int .i64) .s e8)), (10, (.v (.int .u64) .s e10))])) (fun x => rec (S_ref01_U_6 x)) x := by kernel_rfl
theorem ok_ref01_U_6 : LoopOk env_ref01_U lp_ref01_U inl0 c_ref01_U_6 := by
  refine loopOk_of (hd := [(1, false), (7, false), (8, false), (10, false), (11, false)]) (out := out_ref01_U_6) (S := S_ref01_U_6) (fun _ K => B_ref01_U_6 (fun e4 e5 e6 => K .ret (St.ofList [(4, (.v (.int .u64) .s e4)), (5, (.v (.int .i64) .s e5)), (6, (.v (.int .i64) .s e6))])) (fun e8 e10 => K (.exit 0) (St.ofList [(8, (.v (.int .i64) .s e8)), (10, (.v (.int .u64) .s e10))]))) fuel_ref01_U_6 6 step_ref01_U_6 (by kernel_rfl) (fun R K => fun st => mV (.int .i64) .s (st 1) fun y1 => mV (.sl 4 .bool) (.o .s) (st 7) fun y7 => mV (.int .i64) .s (st 8) fun y8 => mV (.int .u64) .s (st 10) fun y10 => mV (.int .i64) .s (st 11) fun y11 => loopN (B_ref01_U_6 (fun e4 e5 e6 => K .ret (St.ofList [(4, (.v (.int .u64) .s e4)), (5, (.v (.int .i64) .s e5)), (6, (.v (.int .i64) .s e6))])) (fun e8 e10 => K (.exit 0) (St.ofList [(8, (.v (.int .i64) .s e8)), (10, (.v (.int .u64) .s e10))]))) (fuel_ref01_U_6 ⟨y1, y7, y8, y10, y11⟩) ⟨y1, y7, y8, y10, y11⟩) (fun R st K => by kernel_rfl) ?_
  intro R K st r h
  obtain ⟨y1, hy1, h⟩ := mV_inv h
  obtain ⟨y7, hy7, h⟩ := mV_inv h
  obtain ⟨y8, hy8, h⟩ := mV_inv h
  obtain ⟨y10, hy10, h⟩ := mV_inv h
  obtain ⟨y11, hy11, h⟩ := mV_inv h
  exact ⟨⟨y1, y7, y8, y10, y11⟩, only_of_list (ofList_cons hy1 (ofList_cons hy7 (ofList_cons hy8 (ofList_cons hy10 (ofList_cons hy11 rfl))))), h⟩
theorem loops_ref01_U : LoopsOk env_ref01_U lp_ref01_U inl0 (body Try.f80.body) := by
  refine loopsOk_of (fun c hc => ?_) (fun c hc => ?_)
  · rw [show loopsL (body Try.f80.body) = [c_ref01_U_6] by kernel_rfl] at hc
    simp only [List.mem_cons, List.not_mem_nil, or_false] at hc
    rcases hc with rfl
    · exact ok_ref01_U_6
  · rw [show joinsL env_ref01_U (body Try.f80.body) = [] by kernel_rfl] at hc; cases hc
noncomputable def p_ref01_U {R : Type} (a0 : List (Int)) (a1 : Int) (K : Int → Int → Int → Option R) : Option R :=
  p_ref01_Read a0 a1 fun r1 r2 r3 =>
  let v4 := r3 != (0 : Int)
  cond v4
  (K (0 : Int) (0 : Int) r3)
  (loopN (B_ref01_U_6 (fun w5 w6 w7 =>
  K w5 w6 w7) (fun w8 w9 =>
  K w9 w8 (0 : Int))) (fuel_ref01_U_6 ⟨a1, r1, r2, (0 : Int), (0 : Int)⟩) ⟨a1, r1, r2, (0 : Int), (0 : Int)⟩)
noncomputable def cs_ref01_U : CSpec := { ins := [(.val (.sl 5 (.int .u8)) .s), (.val (.int .i64) .s)], outs := [((.int .u64), .s), ((.int .i64), .s), ((.int .i64), .s)], fn := fun (d : (List (Int)) × Int × Unit) K _ => p_ref01_U d.1 d.2.1 (fun r0 r1 r2 => K ((r0, r1, r2, ()) : Int × Int × Int × Unit) ((()) : Unit)) }
theorem h_ref01_U : Holds Try.prog 80 cs_ref01_U := by
  refine holds_of (env := env_ref01_U) (inl := inl0) (fn := Try.f80) (code := body Try.f80.body) (rs := [(4, none), (5, none), (6, none)]) (lp := lp_ref01_U) mixed ⟨envTyOk.ty, envTyOk.eq⟩ gamOk_ref01_U inl0_ok Try.func80 (by kernel_rfl) (by kernel_rfl) (by kernel_rfl) (by kernel_rfl) (by kernel_rfl) loops_ref01_U (by kernel_rfl) ?_
  intro d R K Kp res h
  have : evC env_ref01_U lp_ref01_U inl0 (body Try.f80.body) (St.start cs_ref01_U.ins d) (retK env_ref01_U cs_ref01_U.ins cs_ref01_U.outs [(4, none), (5, none), (6, none)] cs_ref01_U.pan K Kp) = cs_ref01_U.fn d K Kp := by kernel_rfl
  rw [this]; exact h
-- f39 trammel/trammelref01.PutU
noncomputable def env_ref01_PutU : Env := { ty := envTy, eq := envEq, gam := noG, n := Try.f39.ntmps }
structure X_ref01_PutU_2 where
  f0 : Int
  f3 : List (Int)

noncomputable def B_ref01_PutU_2 {R : Type} (k_ret : (List (Int)) → Option R) (rec : X_ref01_PutU_2 → Option R) (x : X_ref01_PutU_2) : Option R :=
  cond ((128 : Int) != 0)
  (let v1 := Int.tmod x.f0 (128 : Int)
  let v2 := IntKind.u8.wrap v1
  cond ((128 : Int) != 0)
  (let v3 := IntKind.u64.wrap (Int.tdiv x.f0 (128 : Int))
  let v4 := v3 == (0 : Int)
  cond v4
  (let v5 := List.set (List.replicate 1 (0 : Int)) 0 v2
  cond (decide (List.length x.f3 + List.length v5 ≤ most))
  (let v6 := x.f3 ++ v5
  k_ret v6) none)
  (let v7 := IntKind.u8.wrap (v2 + (128 : Int))
  let v8 := List.set (List.replicate 1 (0 : Int)) 0 v7
  cond (decide (List.length x.f3 + List.length v8 ≤ most))
  (let v9 := x.f3 ++ v8
  rec ⟨v3, v9⟩) none)) none) none
noncomputable def S_ref01_PutU_2 (x : X_ref01_PutU_2) : St := St.ofList [(0, (.v (.int .u64) .s x.f0)), (3, (.v (.sl 5 (.int .u8)) (.o .s) x.f3))]
def out_ref01_PutU_2 : Ex → List (Nat × Bool) | .ret => [(2, false)] | _ => []
noncomputable def fuel_ref01_PutU_2 (x : X_ref01_PutU_2) : Nat := fuel64
noncomputable def c_ref01_PutU_2 : Code := match loopAt 2 (body Try.f39.body) with | some c => c | none => .skip
noncomputable def lp_ref01_PutU : Loops := fun z i R st K => match z, i with
  | false, 2 => coerce [(0, false), (3, false)] st (fun st => mV (.int .u64) .s (st 0) fun y0 => mV (.sl 5 (.int .u8)) (.o .s) (st 3) fun y3 => loopN (B_ref01_PutU_2 (fun e2 => K .ret (St.ofList [(2, (.v (.sl 5 (.int .u8)) (.o .s) e2))]))) (fuel_ref01_PutU_2 ⟨y0, y3⟩) ⟨y0, y3⟩)
  | _, _ => none
theorem step_ref01_PutU_2 (R : Type) (K : Ex → St → Option R) (rec : St → Option R) (x : X_ref01_PutU_2) : evC env_ref01_PutU lp_ref01_PutU inl0 c_ref01_PutU_2 (S_ref01_PutU_2 x) (fun e st => match e with | .normal => coerce [(0, false), (3, false)] st rec | e => coerce (out_ref01_PutU_2 e) st (K e)) = B_ref01_PutU_2 (fun e2 => K .ret (St.ofList [(2, (.v (.sl 5 (.int .u8)) (.o .s) e2))])) (fun x => rec (S_ref01_PutU_2 x)) x := by kernel_rfl
theorem ok_ref01_PutU_2 : LoopOk env_ref01_PutU lp_ref01_PutU inl0 c_ref01_PutU_2 := by
  refine loopOk_of (hd := [(0, false), (3, false)]) (out := out_ref01_PutU_2) (S := S_ref01_PutU_2) (fun _ K => B_ref01_PutU_2 (fun e2 => K .ret (St.ofList [(2, (.v (.sl 5 (.int .u8)) (.o .s) e2))]))) fuel_ref01_PutU_2 2 step_ref01_PutU_2 (by kernel_rfl) (fun R K => fun st => mV (.int .u64) .s (st 0) fun y0 => mV (.sl 5 (.int .u8)) (.o .s) (st 3) fun y3 => loopN (B_ref01_PutU_2 (fun e2 => K .ret (St.ofList [(2, (.v (.sl 5 (.int .u8)) (.o .s) e2))]))) (fuel_ref01_PutU_2 ⟨y0, y3⟩) ⟨y0, y3⟩) (fun R st K => by kernel_rfl) ?_
  intro R K st r h
  obtain ⟨y0, hy0, h⟩ := mV_inv h
  obtain ⟨y3, hy3, h⟩ := mV_inv h
  exact ⟨⟨y0, y3⟩, only_of_list (ofList_cons hy0 (ofList_cons hy3 rfl)), h⟩
theorem loops_ref01_PutU : LoopsOk env_ref01_PutU lp_ref01_PutU inl0 (body Try.f39.body) := by
  refine loopsOk_of (fun c hc => ?_) (fun c hc => ?_)
  · rw [show loopsL (body Try.f39.body) = [c_ref01_PutU_2] by kernel_rfl] at hc
    simp only [List.mem_cons, List.not_mem_nil, or_false] at hc
    rcases hc with rfl
    · exact ok_ref01_PutU_2
  · rw [show joinsL env_ref01_PutU (body Try.f39.body) = [] by kernel_rfl] at hc; cases hc
noncomputable def p_ref01_PutU {R : Type} (a0 : Int) (K : (List (Int)) → Option R) : Option R :=
  loopN (B_ref01_PutU_2 (fun w1 =>
  K w1)) (fuel_ref01_PutU_2 ⟨a0, ([] : List (Int))⟩) ⟨a0, ([] : List (Int))⟩
noncomputable def cs_ref01_PutU : CSpec := { ins := [(.val (.int .u64) .s)], outs := [((.sl 5 (.int .u8)), (.o .s))], fn := fun (d : Int × Unit) K _ => p_ref01_PutU d.1 (fun r0 => K ((r0, ()) : (List (Int)) × Unit) ((()) : Unit)) }
theorem h_ref01_PutU : Holds Try.prog 39 cs_ref01_PutU := by
  refine holds_of (env := env_ref01_PutU) (inl := inl0) (fn := Try.f39) (code := body Try.f39.body) (rs := [(2, none)]) (lp := lp_ref01_PutU) mixed ⟨envTyOk.ty, envTyOk.eq⟩ (fun _ _ _ h => by cases h) inl0_ok Try.func39 (by kernel_rfl) (by kernel_rfl) (by kernel_rfl) (by kernel_rfl) (by kernel_rfl) loops_ref01_PutU (by kernel_rfl) ?_
  intro d R K Kp res h
  have : evC env_ref01_PutU lp_ref01_PutU inl0 (body Try.f39.body) (St.start cs_ref01_PutU.ins d) (retK env_ref01_PutU cs_ref01_PutU.ins cs_ref01_PutU.outs [(2, none)] cs_ref01_PutU.pan K Kp) = cs_ref01_PutU.fn d K Kp := by kernel_rfl
  rw [this]; exact h
-- f72 (*trammel/trammelref21.cursor).num
noncomputable def gam_ref21_cursor_num : FuncId → List FuncId → Option CSpec
  | 80, [] => some cs_ref01_U
  | 39, [] => some cs_ref01_PutU
  | _, _ => none
noncomputable def js_ref21_cursor_num : Nat → Bool
  | 4 => true
  | 7 => true
  | 9 => true
  | _ => false
noncomputable def lv_ref21_cursor_num : Nat → Option (List Nat)
  | 0 => some [0, 1, 1000000]
  | 1 => some [0, 1, 1000000]
  | 2 => some [1000000]
  | 3 => some [0, 1, 1000000]
  | 4 => some [0, 1, 5, 6, 7, 1000000]
  | 5 => some [0, 1, 5, 6, 7, 1000000]
  | 6 => some [0, 1, 5, 6, 1000000]
  | 7 => some [0, 1, 5, 6, 1000000]
  | 8 => some [0, 5, 6, 1000000]
  | 9 => some [0, 5, 6, 1000000]
  | 10 => some [1000000]
  | 11 => some [0, 5, 6, 1000000]
  | 12 => some [5, 1000000]
  | _ => none
noncomputable def env_ref21_cursor_num : Env := { ty := envTy, eq := envEq, gam := gam_ref21_cursor_num, n := Try.f72.ntmps, js := js_ref21_cursor_num, lv := lv_ref21_cursor_num }
theorem gamOk_ref21_cursor_num : EnvFn Try.prog env_ref21_cursor_num := by
  intro f gs c h
  unfold env_ref21_cursor_num gam_ref21_cursor_num at h
  simp only at h
  split at h <;> first | (cases h; done) | (cases h; exact h_ref01_U) | (cases h; exact h_ref01_PutU)
structure Y_ref21_cursor_num_4 where
  f1 : Int
  f1000000 : (List (Int)) × (Int) × (Int) × Unit

noncomputable def J_ref21_cursor_num_4 {R : Type} (k_normal : Int → Int → Int → Int → ((List (Int)) × (Int) × (Int) × Unit) → Option R) (x : Y_ref21_cursor_num_4) : Option R :=
  cond (inR x.f1000000.2.1 ((List.length x.f1000000.1 : Nat) : Int) (List.length x.f1000000.1))
  (let v1 := rng x.f1000000.1 x.f1000000.2.1 ((List.length x.f1000000.1 : Nat) : Int)
  p_ref01_U v1 (64 : Int) fun r2 r3 r4 =>
  k_normal x.f1 r2 r3 r4 x.f1000000) none
noncomputable def R_ref21_cursor_num_4 {R : Type} (k_normal : Int → Int → Int → Int → ((List (Int)) × (Int) × (Int) × Unit) → Option R) (x : Y_ref21_cursor_num_4) : Option R :=
  both
  (cond (inR x.f1000000.2.1 ((List.length x.f1000000.1 : Nat) : Int) (List.length x.f1000000.1))
  (let v1 := rng x.f1000000.1 x.f1000000.2.1 ((List.length x.f1000000.1 : Nat) : Int)
  p_ref01_U v1 (64 : Int) fun r2 r3 r4 =>
  k_normal x.f1 r2 r3 r4 x.f1000000) none)
  (cond (inR x.f1000000.2.1 ((List.length x.f1000000.1 : Nat) : Int) (List.length x.f1000000.1))
  (let v5 := rng x.f1000000.1 x.f1000000.2.1 ((List.length x.f1000000.1 : Nat) : Int)
  p_ref01_U v5 (64 : Int) fun r6 r7 r8 =>
  k_normal x.f1 r6 r7 r8 x.f1000000) none)
theorem req_ref21_cursor_num_4 {R : Type} (k_normal : Int → Int → Int → Int → ((List (Int)) × (Int) × (Int) × Unit) → Option R) (x : Y_ref21_cursor_num_4) : R_ref21_cursor_num_4 k_normal x = J_ref21_cursor_num_4 k_normal x := by
  unfold R_ref21_cursor_num_4 J_ref21_cursor_num_4
  simp only [both_self]
noncomputable def Q_ref21_cursor_num_4 (x : Y_ref21_cursor_num_4) : St := St.ofList [(0, (.al 1000000 [.der])), (1, (.v (.int .u64) .s x.f1)), (1000000, (.v (.ptr 0 Ty24) (.o .s) (some x.f1000000)))]
def jut_ref21_cursor_num_4 : Ex → List (Nat × Bool) | .normal => [(0, false), (1, false), (5, false), (6, false), (7, false), (1000000, false)] | _ => []
noncomputable def j_ref21_cursor_num_4 : Code := match joinC 4 (body Try.f72.body) with | some c => c | none => .skip
structure Y_ref21_cursor_num_7 where
  f1 : Int
  f5 : Int
  f6 : Int
  f7 : Int
  f1000000 : (List (Int)) × (Int) × (Int) × Unit

noncomputable def J_ref21_cursor_num_7 {R : Type} (k_normal : Int → Int → Int → ((List (Int)) × (Int) × (Int) × Unit) → Option R) (x : Y_ref21_cursor_num_7) : Option R :=
  let v1 := x.f7 == (0 : Int)
  cond v1
  (p_ref01_PutU x.f5 fun r2 =>
  let v3 := ((List.length r2 : Nat) : Int)
  let v4 := decide (v3 < x.f6)
  cond v4
  (k_normal x.f1 x.f5 x.f6 (x.f1000000.1, (x.f1000000.2.1, ((2 : Int), x.f1000000.2.2.2))))
  (k_normal x.f1 x.f5 x.f6 x.f1000000))
  (k_normal x.f1 x.f5 x.f6 x.f1000000)
noncomputable def Q_ref21_cursor_num_7 (x : Y_ref21_cursor_num_7) : St := St.ofList [(0, (.al 1000000 [.der])), (1, (.v (.int .u64) .s x.f1)), (5, (.v (.int .u64) .s x.f5)), (6, (.v (.int .i64) .s x.f6)), (7, (.v (.int .i64) .s x.f7)), (1000000, (.v (.ptr 0 Ty24) (.o .s) (some x.f1000000)))]
def jut_ref21_cursor_num_7 : Ex → List (Nat × Bool) | .normal => [(0, false), (1, false), (5, false), (6, false), (1000000, false)] | _ => []
noncomputable def j_ref21_cursor_num_7 : Code := match joinC 7 (body Try.f72.body) with | some c => c | none => .skip
structure Y_ref21_cursor_num_9 where
  f1 : Int
  f5 : Int
  f6 : Int
  f1000000 : (List (Int)) × (Int) × (Int) × Unit

noncomputable def J_ref21_cursor_num_9 {R : Type} (k_normal : Int → Int → ((List (Int)) × (Int) × (Int) × Unit) → Option R) (x : Y_ref21_cursor_num_9) : Option R :=
  let v1 := x.f1000000.2.2.1 == (0 : Int)
  cond v1
  (let v2 := decide (x.f5 > x.f1)
  cond v2
  (k_normal x.f5 x.f6 (x.f1000000.1, (x.f1000000.2.1, ((4 : Int), x.f1000000.2.2.2))))
  (k_normal x.f5 x.f6 x.f1000000))
  (k_normal x.f5 x.f6 x.f1000000)
noncomputable def Q_ref21_cursor_num_9 (x : Y_ref21_cursor_num_9) : St := St.ofList [(0, (.al 1000000 [.der])), (1, (.v (.int .u64) .s x.f1)), (5, (.v (.int .u64) .s x.f5)), (6, (.v (.int .i64) .s x.f6)), (1000000, (.v (.ptr 0 Ty24) (.o .s) (some x.f1000000)))]
def jut_ref21_cursor_num_9 : Ex → List (Nat × Bool) | .normal => [(0, false), (5, false), (6, false), (1000000, false)] | _ => []
noncomputable def j_ref21_cursor_num_9 : Code := match joinC 9 (body Try.f72.body) with | some c => c | none => .skip
noncomputable def lp_ref21_cursor_num : Loops := fun z i R st K => match z, i with
  | true, 4 => coerce [(0, false), (1, false), (1000000, false)] st (fun st => mAl 1000000 [.der] (st 0) (mV (.int .u64) .s (st 1) fun y1 => mP 0 Ty24 (.o .s) (st 1000000) fun y1000000 => J_ref21_cursor_num_4 (fun e1 e5 e6 e7 e1000000 => K .normal (St.ofList [(0, (.al 1000000 [.der])), (1, (.v (.int .u64) .s e1)), (5, (.v (.int .u64) .s e5)), (6, (.v (.int .i64) .s e6)), (7, (.v (.int .i64) .s e7)), (1000000, (.v (.ptr 0 Ty24) (.o .s) (some e1000000)))])) ⟨y1, y1000000⟩))
  | true, 7 => coerce [(0, false), (1, false), (5, false), (6, false), (7, false), (1000000, false)] st (fun st => mAl 1000000 [.der] (st 0) (mV (.int .u64) .s (st 1) fun y1 => mV (.int .u64) .s (st 5) fun y5 => mV (.int .i64) .s (st 6) fun y6 => mV (.int .i64) .s (st 7) fun y7 => mP 0 Ty24 (.o .s) (st 1000000) fun y1000000 => J_ref21_cursor_num_7 (fun e1 e5 e6 e1000000 => K .normal (St.ofList [(0, (.al 1000000 [.der])), (1, (.v (.int .u64) .s e1)), (5, (.v (.int .u64) .s e5)), (6, (.v (.int .i64) .s e6)), (1000000, (.v (.ptr 0 Ty24) (.o .s) (some e1000000)))])) ⟨y1, y5, y6, y7, y1000000⟩))
  | true, 9 => coerce [(0, false), (1, false), (5, false), (6, false), (1000000, false)] st (fun st => mAl 1000000 [.der] (st 0) (mV (.int .u64) .s (st 1) fun y1 => mV (.int .u64) .s (st 5) fun y5 => mV (.int .i64) .s (st 6) fun y6 => mP 0 Ty24 (.o .s) (st 1000000) fun y1000000 => J_ref21_cursor_num_9 (fun e5 e6 e1000000 => K .normal (St.ofList [(0, (.al 1000000 [.der])), (5, (.v (.int .u64) .s e5)), (6, (.v (.int .i64) .s e6)), (1000000, (.v (.ptr 0 Ty24) (.o .s) (some e1000000)))])) ⟨y1, y5, y6, y1000000⟩))
  | _, _ => none
theorem jstep_ref21_cursor_num_4 (R : Type) (K : Ex → St → Option R) (x : Y_ref21_cursor_num_4) : evC env_ref21_cursor_num lp_ref21_cursor_num inl0 j_ref21_cursor_num_4 (Q_ref21_cursor_num_4 x) (fun e st => coerce (jut_ref21_cursor_num_4 e) st (K e)) = J_ref21_cursor_num_4 (fun e1 e5 e6 e7 e1000000 => K .normal (St.ofList [(0, (.al 1000000 [.der])), (1, (.v (.int .u64) .s e1)), (5, (.v (.int .u64) .s e5)), (6, (.v (.int .i64) .s e6)), (7, (.v (.int .i64) .s e7)), (1000000, (.v (.ptr 0 Ty24) (.o .s) (some e1000000)))])) x := by
  have h : evC env_ref21_cursor_num lp_ref21_cursor_num inl0 j_ref21_cursor_num_4 (Q_ref21_cursor_num_4 x) (fun e st => coerce (jut_ref21_cursor_num_4 e) st (K e)) = R_ref21_cursor_num_4 (fun e1 e5 e6 e7 e1000000 => K .normal (St.ofList [(0, (.al 1000000 [.der])), (1, (.v (.int .u64) .s e1)), (5, (.v (.int .u64) .s e5)), (6, (.v (.int .i64) .s e6)), (7, (.v (.int .i64) .s e7)), (1000000, (.v (.ptr 0 Ty24) (.o .s) (some e1000000)))])) x := by kernel_rfl
  rw [h, req_ref21_cursor_num_4]
theorem jok_ref21_cursor_num_4 : JoinOk env_ref21_cursor_num lp_ref21_cursor_num inl0 j_ref21_cursor_num_4 4 := by
  refine joinOk_of (hd := [(0, false), (1, false), (1000000, false)]) (out := jut_ref21_cursor_num_4) (S := Q_ref21_cursor_num_4) (fun _ K => J_ref21_cursor_num_4 (fun e1 e5 e6 e7 e1000000 => K .normal (St.ofList [(0, (.al 1000000 [.der])), (1, (.v (.int .u64) .s e1)), (5, (.v (.int .u64) .s e5)), (6, (.v (.int .i64) .s e6)), (7, (.v (.int .i64) .s e7)), (1000000, (.v (.ptr 0 Ty24) (.o .s) (some e1000000)))]))) 4 jstep_ref21_cursor_num_4 (fun R K => fun st => mAl 1000000 [.der] (st 0) (mV (.int .u64) .s (st 1) fun y1 => mP 0 Ty24 (.o .s) (st 1000000) fun y1000000 => J_ref21_cursor_num_4 (fun e1 e5 e6 e7 e1000000 => K .normal (St.ofList [(0, (.al 1000000 [.der])), (1, (.v (.int .u64) .s e1)), (5, (.v (.int .u64) .s e5)), (6, (.v (.int .i64) .s e6)), (7, (.v (.int .i64) .s e7)), (1000000, (.v (.ptr 0 Ty24) (.o .s) (some e1000000)))])) ⟨y1, y1000000⟩)) (fun R st K => by kernel_rfl) ?_
  intro R K st r h
  obtain ⟨hy0, h⟩ := mAl_inv h
  obtain ⟨y1, hy1, h⟩ := mV_inv h
  obtain ⟨y1000000, hy1000000, h⟩ := mP_inv h
  exact ⟨⟨y1, y1000000⟩, only_of_list (ofList_cons hy0 (ofList_cons hy1 (ofList_cons hy1000000 rfl))), h⟩
theorem jstep_ref21_cursor_num_7 (R : Type) (K : Ex → St → Option R) (x : Y_ref21_cursor_num_7) : evC env_ref21_cursor_num lp_ref21_cursor_num inl0 j_ref21_cursor_num_7 (Q_ref21_cursor_num_7 x) (fun e st => coerce (jut_ref21_cursor_num_7 e) st (K e)) = J_ref21_cursor_num_7 (fun e1 e5 e6 e1000000 => K .normal (St.ofList [(0, (.al 1000000 [.der])), (1, (.v (.int .u64) .s e1)), (5, (.v (.int .u64) .s e5)), (6, (.v (.int .i64) .s e6)), (1000000, (.v (.ptr 0 Ty24) (.o .s) (some e1000000)))])) x := by kernel_rfl
theorem jok_ref21_cursor_num_7 : JoinOk env_ref21_cursor_num lp_ref21_cursor_num inl0 j_ref21_cursor_num_7 7 := by
  refine joinOk_of (hd := [(0, false), (1, false), (5, false), (6, false), (7, false), (1000000, false)]) (out := jut_ref21_cursor_num_7) (S := Q_ref21_cursor_num_7) (fun _ K => J_ref21_cursor_num_7 (fun e1 e5 e6 e1000000 => K .normal (St.ofList [(0, (.al 1000000 [.der])), (1, (.v (.int .u64) .s e1)), (5, (.v (.int .u64) .s e5)), (6, (.v (.int .i64) .s e6)), (1000000, (.v (.ptr 0 Ty24) (.o .s) (some e1000000)))]))) 7 jstep_ref21_cursor_num_7 (fun R K => fun st => mAl 1000000 [.der] (st 0) (mV (.int .u64) .s (st 1) fun y1 => mV (.int .u64) .s (st 5) fun y5 => mV (.int .i64) .s (st 6) fun y6 => mV (.int .i64) .s (st 7) fun y7 => mP 0 Ty24 (.o .s) (st 1000000) fun y1000000 => J_ref21_cursor_num_7 (fun e1 e5 e6 e1000000 => K .normal (St.ofList [(0, (.al 1000000 [.der])), (1, (.v (.int .u64) .s e1)), (5, (.v (.int .u64) .s e5)), (6, (.v (.int .i64) .s e6)), (1000000, (.v (.ptr 0 Ty24) (.o .s) (some e1000000)))])) ⟨y1, y5, y6, y7, y1000000⟩)) (fun R st K => by kernel_rfl) ?_
  intro R K st r h
  obtain ⟨hy0, h⟩ := mAl_inv h
  obtain ⟨y1, hy1, h⟩ := mV_inv h
  obtain ⟨y5, hy5, h⟩ := mV_inv h
  obtain ⟨y6, hy6, h⟩ := mV_inv h
  obtain ⟨y7, hy7, h⟩ := mV_inv h
  obtain ⟨y1000000, hy1000000, h⟩ := mP_inv h
  exact ⟨⟨y1, y5, y6, y7, y1000000⟩, only_of_list (ofList_cons hy0 (ofList_cons hy1 (ofList_cons hy5 (ofList_cons hy6 (ofList_cons hy7 (ofList_cons hy1000000 rfl)))))), h⟩
theorem jstep_ref21_cursor_num_9 (R : Type) (K : Ex → St → Option R) (x : Y_ref21_cursor_num_9) : evC env_ref21_cursor_num lp_ref21_cursor_num inl0 j_ref21_cursor_num_9 (Q_ref21_cursor_num_9 x) (fun e st => coerce (jut_ref21_cursor_num_9 e) st (K e)) = J_ref21_cursor_num_9 (fun e5 e6 e1000000 => K .normal (St.ofList [(0, (.al 1000000 [.der])), (5, (.v (.int .u64) .s e5)), (6, (.v (.int .i64) .s e6)), (1000000, (.v (.ptr 0 Ty24) (.o .s) (some e1000000)))])) x := by kernel_rfl
theorem jok_ref21_cursor_num_9 : JoinOk env_ref21_cursor_num lp_ref21_cursor_num inl0 j_ref21_cursor_num_9 9 := by
  refine joinOk_of (hd := [(0, false), (1, false), (5, false), (6, false), (1000000, false)]) (out := jut_ref21_cursor_num_9) (S := Q_ref21_cursor_num_9) (fun _ K => J_ref21_cursor_num_9 (fun e5 e6 e1000000 => K .normal (St.ofList [(0, (.al 1000000 [.der])), (5, (.v (.int .u64) .s e5)), (6, (.v (.int .i64) .s e6)), (1000000, (.v (.ptr 0 Ty24) (.o .s) (some e1000000)))]))) 9 jstep_ref21_cursor_num_9 (fun R K => fun st => mAl 1000000 [.der] (st 0) (mV (.int .u64) .s (st 1) fun y1 => mV (.int .u64) .s (st 5) fun y5 => mV (.int .i64) .s (st 6) fun y6 => mP 0 Ty24 (.o .s) (st 1000000) fun y1000000 => J_ref21_cursor_num_9 (fun e5 e6 e1000000 => K .normal (St.ofList [(0, (.al 1000000 [.der])), (5, (.v (.int .u64) .s e5)), (6, (.v (.int .i64) .s e6)), (1000000, (.v (.ptr 0 Ty24) (.o .s) (some e1000000)))])) ⟨y1, y5, y6, y1000000⟩)) (fun R st K => by kernel_rfl) ?_
  intro R K st r h
  obtain ⟨hy0, h⟩ := mAl_inv h
  obtain ⟨y1, hy1, h⟩ := mV_inv h
  obtain ⟨y5, hy5, h⟩ := mV_inv h
  obtain ⟨y6, hy6, h⟩ := mV_inv h
  obtain ⟨y1000000, hy1000000, h⟩ := mP_inv h
  exact ⟨⟨y1, y5, y6, y1000000⟩, only_of_list (ofList_cons hy0 (ofList_cons hy1 (ofList_cons hy5 (ofList_cons hy6 (ofList_cons hy1000000 rfl))))), h⟩
theorem loops_ref21_cursor_num : LoopsOk env_ref21_cursor_num lp_ref21_cursor_num inl0 (body Try.f72.body) := by
  refine loopsOk_of (fun c hc => ?_) (fun c hc => ?_)
  · rw [show loopsL (body Try.f72.body) = [] by kernel_rfl] at hc; cases hc
  · rw [show joinsL env_ref21_cursor_num (body Try.f72.body) = [(j_ref21_cursor_num_9, 9), (j_ref21_cursor_num_7, 7), (j_ref21_cursor_num_4, 4)] by kernel_rfl] at hc
    simp only [List.mem_cons, List.not_mem_nil, or_false] at hc
    rcases hc with rfl | rfl | rfl
    · exact jok_ref21_cursor_num_9
    · exact jok_ref21_cursor_num_7
    · exact jok_ref21_cursor_num_4
noncomputable def p_ref21_cursor_num {R : Type} (a0 : (List (Int)) × (Int) × (Int) × Unit) (a1 : Int) (K : Int → ((List (Int)) × (Int) × (Int) × Unit) → Option R) : Option R :=
  let v1 := a0.2.2.1 != (0 : Int)
  cond v1
  (K (0 : Int) a0)
  (J_ref21_cursor_num_4 (fun w2 w3 w4 w5 w6 =>
  J_ref21_cursor_num_7 (fun w7 w8 w9 w10 =>
  J_ref21_cursor_num_9 (fun w11 w12 w13 =>
  let v14 := w13.2.2.1 != (0 : Int)
  cond v14
  (K (0 : Int) w13)
  (let v15 := IntKind.i64.wrap (w13.2.1 + w12)
  K w11 (w13.1, (v15, w13.2.2)))) ⟨w7, w8, w9, w10⟩) ⟨w2, w3, w4, w5, (w6.1, (w6.2.1, (w5, w6.2.2.2)))⟩) ⟨a1, a0⟩)
noncomputable def cs_ref21_cursor_num : CSpec := { ins := [(.ref Ty24 .s .s), (.val (.int .u64) .s)], outs := [((.int .u64), .s)], fn := fun (d : ((List (Int)) × (Int) × (Int) × Unit) × Int × Unit) K _ => p_ref21_cursor_num d.1 d.2.1 (fun r0 b0 => K ((r0, ()) : Int × Unit) ((b0, ()) : ((List (Int)) × (Int) × (Int) × Unit) × Unit)) }
theorem h_ref21_cursor_num : Holds Try.prog 72 cs_ref21_cursor_num := by
  refine holds_of (env := env_ref21_cursor_num) (inl := inl0) (fn := Try.f72) (code := body Try.f72.body) (rs := [(4, none)]) (lp := lp_ref21_cursor_num) mixed ⟨envTyOk.ty, envTyOk.eq⟩ gamOk_ref21_cursor_num inl0_ok Try.func72 (by kernel_rfl) (by kernel_rfl) (by kernel_rfl) (by kernel_rfl) (by kernel_rfl) loops_ref21_cursor_num (by kernel_rfl) ?_
  intro d R K Kp res h
  have : evC env_ref21_cursor_num lp_ref21_cursor_num inl0 (body Try.f72.body) (St.start cs_ref21_cursor_num.ins d) (retK env_ref21_cursor_num cs_ref21_cursor_num.ins cs_ref21_cursor_num.outs [(4, none)] cs_ref21_cursor_num.pan K Kp) = cs_ref21_cursor_num.fn d K Kp := by kernel_rfl
  rw [this]; exact h
-- f30 trammel/trammelref21.Read
noncomputable def gam_ref21_Read : FuncId → List FuncId → Option CSpec
  | 72, [] => some cs_ref21_cursor_num
  | _, _ => none
noncomputable def lv_ref21_Read : Nat → Option (List Nat)
  | 0 => some [0]
  | 1 => some [0]
  | 2 => some []
  | 3 => some [0]
  | 4 => some [0, 4]
  | 5 => some [0, 4, 5]
  | 6 => some [0, 4, 5, 6]
  | 7 => some [0, 4, 5, 6]
  | 8 => some [0, 4, 5, 6]
  | 9 => some [0, 4, 5, 6, 7]
  | 10 => some [0, 4, 5, 6, 7, 8]
  | 11 => some [0, 4, 5, 6, 7, 8]
  | 12 => some [0, 4, 5, 6, 7, 8]
  | 13 => some [0, 4, 5, 6, 7, 8, 9]
  | 14 => some [0, 4, 5, 6, 7, 8, 9, 10]
  | 15 => some [0, 4, 5, 6, 7, 8, 9, 10]
  | 16 => some [0, 4, 5, 6, 7, 8, 9, 10]
  | 17 => some [0, 4, 5, 6, 7, 8, 9, 10, 11]
  | 18 => some [0, 4, 5, 6, 7, 8, 9, 10, 11, 12]
  | 19 => some [0, 4, 5, 6, 7, 8, 9, 10, 11, 12, 13]
  | 20 => some [0, 4, 5, 6, 7, 8, 9, 10, 11, 12, 13, 14]
  | 21 => some [0, 4, 5, 6, 7, 8, 9, 10, 11, 12, 13, 14]
  | 22 => some [0, 4, 5, 6, 7, 8, 9, 10, 11, 12, 13, 14]
  | 23 => some [0, 4, 5, 6, 7, 8, 9]
  | 24 => some [0, 4, 5, 6, 7]
  | 25 => some [0, 4, 5]
  | 26 => some [4, 5]
  | 27 => some [4, 5]
  | 28 => some [4]
  | 29 => some [5]
  | _ => none
noncomputable def env_ref21_Read : Env := { ty := envTy, eq := envEq, gam := gam_ref21_Read, n := Try.f30.ntmps, lv := lv_ref21_Read, al := [27, 28, 40, 41, 53, 54] }
theorem gamOk_ref21_Read : EnvFn Try.prog env_ref21_Read := by
  intro f gs c h
  unfold env_ref21_Read gam_ref21_Read at h
  simp only at h
  split at h <;> first | (cases h; done) | (cases h; exact h_ref21_cursor_num)
structure X_ref21_Read_14 where
  f0 : List (Int)
  f4 : (List (Int)) × (Int) × (Int) × Unit
  f5 : List (It1)
  f6 : Int
  f7 : It1
  f8 : Int
  f9 : List (((Int) × (Int) × Unit) × ((Int) × (Int) × Unit) × Unit)
  f10 : Int

noncomputable def B_ref21_Read_14 {R : Type} (k_exit_4 : (List (Int)) → ((List (Int)) × (Int) × (Int) × Unit) → (List (It1)) → Int → It1 → Int → (List (((Int) × (Int) × Unit) × ((Int) × (Int) × Unit) × Unit)) → Option R) (rec : X_ref21_Read_14 → Option R) (x : X_ref21_Read_14) : Option R :=
  let v1 := decide (x.f10 > (0 : Int))
  cond v1
  (let v2 := x.f4.2.2.1 == (0 : Int)
  cond v2
  (p_ref21_cursor_num x.f4 (18446744073709551615 : Int) fun r3 b4 =>
  p_ref21_cursor_num b4 (18446744073709551615 : Int) fun r5 b6 =>
  p_ref21_cursor_num b6 (18446744073709551615 : Int) fun r7 b8 =>
  p_ref21_cursor_num b8 (18446744073709551615 : Int) fun r9 b10 =>
  let v11 := b10.2.2.1 == (0 : Int)
  cond v11
  (let v12 := decide (r3 > r5)
  cond v12
  (cond ((65 : Int) != 0)
  (let v13 := Int.tmod r7 (65 : Int)
  let v14 := IntKind.i64.wrap v13
  let v15 := List.set (List.replicate 1 (((0 : Int), ((0 : Int), ())), (((0 : Int), ((0 : Int), ())), ()))) 0 ((r3, (r5, ())), ((v14, (r9, ())), ()))
  cond (decide (List.length x.f9 + List.length v15 ≤ most))
  (let v16 := x.f9 ++ v15
  let v17 := IntKind.u64.wrap (x.f10 - (1 : Int))
  rec ⟨x.f0, (b10.1, (b10.2.1, ((2 : Int), b10.2.2.2))), x.f5, x.f6, x.f7, x.f8, v16, v17⟩) none) none)
  (let v18 := decide (r7 > (64 : Int))
  cond v18
  (cond ((65 : Int) != 0)
  (let v19 := Int.tmod r7 (65 : Int)
  let v20 := IntKind.i64.wrap v19
  let v21 := List.set (List.replicate 1 (((0 : Int), ((0 : Int), ())), (((0 : Int), ((0 : Int), ())), ()))) 0 ((r3, (r5, ())), ((v20, (r9, ())), ()))
  cond (decide (List.length x.f9 + List.length v21 ≤ most))
  (let v22 := x.f9 ++ v21
  let v23 := IntKind.u64.wrap (x.f10 - (1 : Int))
  rec ⟨x.f0, (b10.1, (b10.2.1, ((2 : Int), b10.2.2.2))), x.f5, x.f6, x.f7, x.f8, v22, v23⟩) none) none)
  (let v24 := decide (r7 < (64 : Int))
  cond v24
  (cond (decide (0 ≤ r7))
  (let v25 := shrI .u64 r9 r7
  let v26 := v25 != (0 : Int)
  cond v26
  (cond ((65 : Int) != 0)
  (let v27 := Int.tmod r7 (65 : Int)
  let v28 := IntKind.i64.wrap v27
  let v29 := List.set (List.replicate 1 (((0 : Int), ((0 : Int), ())), (((0 : Int), ((0 : Int), ())), ()))) 0 ((r3, (r5, ())), ((v28, (r9, ())), ()))
  cond (decide (List.length x.f9 + List.length v29 ≤ most))
  (let v30 := x.f9 ++ v29
  let v31 := IntKind.u64.wrap (x.f10 - (1 : Int))
  rec ⟨x.f0, (b10.1, (b10.2.1, ((2 : Int), b10.2.2.2))), x.f5, x.f6, x.f7, x.f8, v30, v31⟩) none) none)
  (cond ((65 : Int) != 0)
  (let v32 := Int.tmod r7 (65 : Int)
  let v33 := IntKind.i64.wrap v32
  let v34 := List.set (List.replicate 1 (((0 : Int), ((0 : Int), ())), (((0 : Int), ((0 : Int), ())), ()))) 0 ((r3, (r5, ())), ((v33, (r9, ())), ()))
  cond (decide (List.length x.f9 + List.length v34 ≤ most))
  (let v35 := x.f9 ++ v34
  let v36 := IntKind.u64.wrap (x.f10 - (1 : Int))
  rec ⟨x.f0, b10, x.f5, x.f6, x.f7, x.f8, v35, v36⟩) none) none)) none)
  (cond ((65 : Int) != 0)
  (let v37 := Int.tmod r7 (65 : Int)
  let v38 := IntKind.i64.wrap v37
  let v39 := List.set (List.replicate 1 (((0 : Int), ((0 : Int), ())), (((0 : Int), ((0 : Int), ())), ()))) 0 ((r3, (r5, ())), ((v38, (r9, ())), ()))
  cond (decide (List.length x.f9 + List.length v39 ≤ most))
  (let v40 := x.f9 ++ v39
  let v41 := IntKind.u64.wrap (x.f10 - (1 : Int))
  rec ⟨x.f0, b10, x.f5, x.f6, x.f7, x.f8, v40, v41⟩) none) none))))
  (cond ((65 : Int) != 0)
  (let v42 := Int.tmod r7 (65 : Int)
  let v43 := IntKind.i64.wrap v42
  let v44 := List.set (List.replicate 1 (((0 : Int), ((0 : Int), ())), (((0 : Int), ((0 : Int), ())), ()))) 0 ((r3, (r5, ())), ((v43, (r9, ())), ()))
  cond (decide (List.length x.f9 + List.length v44 ≤ most))
  (let v45 := x.f9 ++ v44
  let v46 := IntKind.u64.wrap (x.f10 - (1 : Int))
  rec ⟨x.f0, b10, x.f5, x.f6, x.f7, x.f8, v45, v46⟩) none) none))
  (k_exit_4 x.f0 x.f4 x.f5 x.f6 x.f7 x.f8 x.f9))
  (k_exit_4 x.f0 x.f4 x.f5 x.f6 x.f7 x.f8 x.f9)
noncomputable def S_ref21_Read_14 (x : X_ref21_Read_14) : St := St.ofList [(0, (.v (.sl 5 (.int .u8)) .s x.f0)), (4, (.v (.ptr 153 Ty24) (.o .s) (some x.f4))), (5, (.v (.sl 89 (.pair (.sl 86 (.sl 85 Ty0)) .unit)) (.o .s) x.f5)), (6, (.v (.int .u64) .s x.f6)), (7, (.v (.ptr 89 (.pair (.sl 86 (.sl 85 Ty0)) .unit)) (.o (.p (.o .s) .s)) (some x.f7))), (8, (.v (.int .u64) .s x.f8)), (9, (.v (.sl 85 Ty0) (.o .s) x.f9)), (10, (.v (.int .u64) .s x.f10))]
def out_ref21_Read_14 : Ex → List (Nat × Bool) | .exit 4 => [(0, false), (4, false), (5, false), (6, false), (7, false), (8, false), (9, false)] | _ => []
noncomputable def fuel_ref21_Read_14 (x : X_ref21_Read_14) : Nat := fuel64
noncomputable def c_ref21_Read_14 : Code := match loopAt 14 (body Try.f30.body) with | some c => c | none => .skip
structure X_ref21_Read_10 where
  f0 : List (Int)
  f4 : (List (Int)) × (Int) × (Int) × Unit
  f5 : List (It1)
  f6 : Int
  f7 : It1
  f8 : Int

noncomputable def B_ref21_Read_10 {R : Type} (k_exit_2 : (List (Int)) → ((List (Int)) × (Int) × (Int) × Unit) → (List (It1)) → Int → It1 → Option R) (rec : X_ref21_Read_10 → Option R) (x : X_ref21_Read_10) : Option R :=
  let v1 := decide (x.f8 > (0 : Int))
  cond v1
  (let v2 := x.f4.2.2.1 == (0 : Int)
  cond v2
  (p_ref21_cursor_num x.f4 (64 : Int) fun r3 b4 =>
  loopN (B_ref21_Read_14 (fun w5 w6 w7 w8 w9 w10 w11 =>
  let v12 := List.set (List.replicate 1 ([] : List (((Int) × (Int) × Unit) × ((Int) × (Int) × Unit) × Unit))) 0 w11
  cond (decide (List.length w9.1 + List.length v12 ≤ most))
  (let v13 := w9.1 ++ v12
  let v14 := IntKind.u64.wrap (w10 - (1 : Int))
  rec ⟨w5, w6, w7, w8, (v13, w9.2), v14⟩) none)) (fuel_ref21_Read_14 ⟨x.f0, b4, x.f5, x.f6, x.f7, x.f8, ([] : List (((Int) × (Int) × Unit) × ((Int) × (Int) × Unit) × Unit)), r3⟩) ⟨x.f0, b4, x.f5, x.f6, x.f7, x.f8, ([] : List (((Int) × (Int) × Unit) × ((Int) × (Int) × Unit) × Unit)), r3⟩)
  (k_exit_2 x.f0 x.f4 x.f5 x.f6 x.f7))
  (k_exit_2 x.f0 x.f4 x.f5 x.f6 x.f7)
noncomputable def S_ref21_Read_10 (x : X_ref21_Read_10) : St := St.ofList [(0, (.v (.sl 5 (.int .u8)) .s x.f0)), (4, (.v (.ptr 153 Ty24) (.o .s) (some x.f4))), (5, (.v (.sl 89 (.pair (.sl 86 (.sl 85 Ty0)) .unit)) (.o .s) x.f5)), (6, (.v (.int .u64) .s x.f6)), (7, (.v (.ptr 89 (.pair (.sl 86 (.sl 85 Ty0)) .unit)) (.o (.p (.o .s) .s)) (some x.f7))), (8, (.v (.int .u64) .s x.f8))]
def out_ref21_Read_10 : Ex → List (Nat × Bool) | .exit 2 => [(0, false), (4, false), (5, false), (6, false), (7, false)] | _ => []
noncomputable def fuel_ref21_Read_10 (x : X_ref21_Read_10) : Nat := fuel64
noncomputable def c_ref21_Read_10 : Code := match loopAt 10 (body Try.f30.body) with | some c => c | none => .skip
structure X_ref21_Read_6 where
  f0 : List (Int)
  f4 : (List (Int)) × (Int) × (Int) × Unit
  f5 : List (It1)
  f6 : Int

noncomputable def B_ref21_Read_6 {R : Type} (k_exit_0 : (List (Int)) → ((List (Int)) × (Int) × (Int) × Unit) → (List (It1)) → Option R) (rec : X_ref21_Read_6 → Option R) (x : X_ref21_Read_6) : Option R :=
  let v1 := decide (x.f6 > (0 : Int))
  cond v1
  (let v2 := x.f4.2.2.1 == (0 : Int)
  cond v2
  (p_ref21_cursor_num x.f4 (2000 : Int) fun r3 b4 =>
  loopN (B_ref21_Read_10 (fun w5 w6 w7 w8 w9 =>
  let v10 := List.set (List.replicate 1 (([] : List (List (((Int) × (Int) × Unit) × ((Int) × (Int) × Unit) × Unit))), ())) 0 w9
  cond (decide (List.length w7 + List.length v10 ≤ most))
  (let v11 := w7 ++ v10
  let v12 := IntKind.u64.wrap (w8 - (1 : Int))
  rec ⟨w5, w6, v11, v12⟩) none)) (fuel_ref21_Read_10 ⟨x.f0, b4, x.f5, x.f6, (([] : List (List (((Int) × (Int) × Unit) × ((Int) × (Int) × Unit) × Unit))), ()), r3⟩) ⟨x.f0, b4, x.f5, x.f6, (([] : List (List (((Int) × (Int) × Unit) × ((Int) × (Int) × Unit) × Unit))), ()), r3⟩)
  (k_exit_0 x.f0 x.f4 x.f5))
  (k_exit_0 x.f0 x.f4 x.f5)
noncomputable def S_ref21_Read_6 (x : X_ref21_Read_6) : St := St.ofList [(0, (.v (.sl 5 (.int .u8)) .s x.f0)), (4, (.v (.ptr 153 Ty24) (.o .s) (some x.f4))), (5, (.v (.sl 89 (.pair (.sl 86 (.sl 85 Ty0)) .unit)) (.o .s) x.f5)), (6, (.v (.int .u64) .s x.f6))]
def out_ref21_Read_6 : Ex → List (Nat × Bool) | .exit 0 => [(0, false), (4, false), (5, false)] | _ => []
noncomputable def fuel_ref21_Read_6 (x : X_ref21_Read_6) : Nat := fuel64
noncomputable def c_ref21_Read_6 : Code := match loopAt 6 (body Try.f30.body) with | some c => c | none => .skip
noncomputable def lp_ref21_Read : Loops := fun z i R st K => match z, i with
  | false, 14 => coerce [(0, false), (4, false), (5, false), (6, false), (7, false), (8, false), (9, false), (10, false)] st (fun st => mV (.sl 5 (.int .u8)) .s (st 0) fun y0 => mP 153 Ty24 (.o .s) (st 4) fun y4 => mV (.sl 89 (.pair (.sl 86 (.sl 85 Ty0)) .unit)) (.o .s) (st 5) fun y5 => mV (.int .u64) .s (st 6) fun y6 => mP 89 (.pair (.sl 86 (.sl 85 Ty0)) .unit) (.o (.p (.o .s) .s)) (st 7) fun y7 => mV (.int .u64) .s (st 8) fun y8 => mV (.sl 85 Ty0) (.o .s) (st 9) fun y9 => mV (.int .u64) .s (st 10) fun y10 => loopN (B_ref21_Read_14 (fun e0 e4 e5 e6 e7 e8 e9 => K (.exit 4) (St.ofList [(0, (.v (.sl 5 (.int .u8)) .s e0)), (4, (.v (.ptr 153 Ty24) (.o .s) (some e4))), (5, (.v (.sl 89 (.pair (.sl 86 (.sl 85 Ty0)) .unit)) (.o .s) e5)), (6, (.v (.int .u64) .s e6)), (7, (.v (.ptr 89 (.pair (.sl 86 (.sl 85 Ty0)) .unit)) (.o (.p (.o .s) .s)) (some e7))), (8, (.v (.int .u64) .s e8)), (9, (.v (.sl 85 Ty0) (.o .s) e9))]))) (fuel_ref21_Read_14 ⟨y0, y4, y5, y6, y7, y8, y9, y10⟩) ⟨y0, y4, y5, y6, y7, y8, y9, y10⟩)
  | false, 10 => coerce [(0, false), (4, false), (5, false), (6, false), (7, false), (8, false)] st (fun st => mV (.sl 5 (.int .u8)) .s (st 0) fun y0 => mP 153 Ty24 (.o .s) (st 4) fun y4 => mV (.sl 89 (.pair (.sl 86 (.sl 85 Ty0)) .unit)) (.o .s) (st 5) fun y5 => mV (.int .u64) .s (st 6) fun y6 => mP 89 (.pair (.sl 86 (.sl 85 Ty0)) .unit) (.o (.p (.o .s) .s)) (st 7) fun y7 => mV (.int .u64) .s (st 8) fun y8 => loopN (B_ref21_Read_10 (fun e0 e4 e5 e6 e7 => K (.exit 2) (St.ofList [(0, (.v (.sl 5 (.int .u8)) .s e0)), (4, (.v (.ptr 153 Ty24) (.o .s) (some e4))), (5, (.v (.sl 89 (.pair (.sl 86 (.sl 85 Ty0)) .unit)) (.o .s) e5)), (6, (.v (.int .u64) .s e6)), (7, (.v (.ptr 89 (.pair (.sl 86 (.sl 85 Ty0)) .unit)) (.o (.p (.o .s) .s)) (some e7)))]))) (fuel_ref21_Read_10 ⟨y0, y4, y5, y6, y7, y8⟩) ⟨y0, y4, y5, y6, y7, y8⟩)
  | false, 6 => coerce [(0, false), (4, false), (5, false), (6, false)] st (fun st => mV (.sl 5 (.int .u8)) .s (st 0) fun y0 => mP 153 Ty24 (.o .s) (st 4) fun y4 => mV (.sl 89 (.pair (.sl 86 (.sl 85 Ty0)) .unit)) (.o .s) (st 5) fun y5 => mV (.int .u64) .s (st 6) fun y6 => loopN (B_ref21_Read_6 (fun e0 e4 e5 => K (.exit 0) (St.ofList [(0, (.v (.sl 5 (.int .u8)) .s e0)), (4, (.v (.ptr 153 Ty24) (.o .s) (some e4))), (5, (.v (.sl 89 (.pair (.sl 86 (.sl 85 Ty0)) .unit)) (.o .s) e5))]))) (fuel_ref21_Read_6 ⟨y0, y4, y5, y6⟩) ⟨y0, y4, y5, y6⟩)
  | _, _ => none
theorem step_ref21_Read_14 (R : Type) (K : Ex → St → Option R) (rec : St → Option R) (x : X_ref21_Read_14) : evC env_ref21_Read lp_ref21_Read inl0 c_ref21_Read_14 (S_ref21_Read_14 x) (fun e st => match e with | .normal => coerce [(0, false), (4, false), (5, false), (6, false), (7, false), (8, false), (9, false), (10, false)] st rec | e => coerce (out_ref21_Read_14 e) st (K e)) = B_ref21_Read_14 (fun e0 e4 e5 e6 e7 e8 e9 => K (.exit 4) (St.ofList [(0, (.v (.sl 5 (.int .u8)) .s e0)), (4, (.v (.ptr 153 Ty24) (.o .s) (some e4))), (5, (.v (.sl 89 (.pair (.sl 86 (.sl 85 Ty0)) .unit)) (.o .s) e5)), (6, (.v (.int .u64) .s e6)), (7, (.v (.ptr 89 (.pair (.sl 86 (.sl 85 Ty0)) .unit)) (.o (.p (.o .s) .s)) (some e7))), (8, (.v (.int .u64) .s e8)), (9, (.v (.sl 85 Ty0) (.o .s) e9))])) (fun x => rec (S_ref21_Read_14 x)) x := by kernel_rfl
theorem ok_ref21_Read_14 : LoopOk env_ref21_Read lp_ref21_Read inl0 c_ref21_Read_14 := by
  refine loopOk_of (hd := [(0, false), (4, false), (5, false), (6, false), (7, false), (8, false), (9, false), (10, false)]) (out := out_ref21_Read_14) (S := S_ref21_Read_14) (fun _ K => B_ref21_Read_14 (fun e0 e4 e5 e6 e7 e8 e9 => K (.exit 4) (St.ofList [(0, (.v (.sl 5 (.int .u8)) .s e0)), (4, (.v (.ptr 153 Ty24) (.o .s) (some e4))), (5, (.v (.sl 89 (.pair (.sl 86 (.sl 85 Ty0)) .unit)) (.o .s) e5)), (6, (.v (.int .u64) .s e6)), (7, (.v (.ptr 89 (.pair (.sl 86 (.sl 85 Ty0)) .unit)) (.o (.p (.o .s) .s)) (some e7))), (8, (.v (.int .u64) .s e8)), (9, (.v (.sl 85 Ty0) (.o .s) e9))]))) fuel_ref21_Read_14 14 step_ref21_Read_14 (by kernel_rfl) (fun R K => fun st => mV (.sl 5 (.int .u8)) .s (st 0) fun y0 => mP 153 Ty24 (.o .s) (st 4) fun y4 => mV (.sl 89 (.pair (.sl 86 (.sl 85 Ty0)) .unit)) (.o .s) (st 5) fun y5 => mV (.int .u64) .s (st 6) fun y6 => mP 89 (.pair (.sl 86 (.sl 85 Ty0)) .unit) (.o (.p (.o .s) .s)) (st 7) fun y7 => mV (.int .u64) .s (st 8) fun y8 => mV (.sl 85 Ty0) (.o .s) (st 9) fun y9 => mV (.int .u64) .s (st 10) fun y10 => loopN (B_ref21_Read_14 (fun e0 e4 e5 e6 e7 e8 e9 => K (.exit 4) (St.ofList [(0, (.v (.sl 5 (.int .u8)) .s e0)), (4, (.v (.ptr 153 Ty24) (.o .s) (some e4))), (5, (.v (.sl 89 (.pair (.sl 86 (.sl 85 Ty0)) .unit)) (.o .s) e5)), (6, (.v (.int .u64) .s e6)), (7, (.v (.ptr 89 (.pair (.sl 86 (.sl 85 Ty0)) .unit)) (.o (.p (.o .s) .s)) (some e7))), (8, (.v (.int .u64) .s e8)), (9, (.v (.sl 85 Ty0) (.o .s) e9))]))) (fuel_ref21_Read_14 ⟨y0, y4, y5, y6, y7, y8, y9, y10⟩) ⟨y0, y4, y5, y6, y7, y8, y9, y10⟩) (fun R st K => by kernel_rfl) ?_
  intro R K st r h
  obtain ⟨y0, hy0, h⟩ := mV_inv h
  obtain ⟨y4, hy4, h⟩ := mP_inv h
  obtain ⟨y5, hy5, h⟩ := mV_inv h
  obtain ⟨y6, hy6, h⟩ := mV_inv h
  obtain ⟨y7, hy7, h⟩ := mP_inv h
  obtain ⟨y8, hy8, h⟩ := mV_inv h
  obtain ⟨y9, hy9, h⟩ := mV_inv h
  obtain ⟨y10, hy10, h⟩ := mV_inv h
  exact ⟨⟨y0, y4, y5, y6, y7, y8, y9, y10⟩, only_of_list (ofList_cons hy0 (ofList_cons hy4 (ofList_cons hy5 (ofList_cons hy6 (ofList_cons hy7 (ofList_cons hy8 (ofList_cons hy9 (ofList_cons hy10 rfl)))))))), h⟩
theorem step_ref21_Read_10 (R : Type) (K : Ex → St → Option R) (rec : St → Option R) (x : X_ref21_Read_10) : evC env_ref21_Read lp_ref21_Read inl0 c_ref21_Read_10 (S_ref21_Read_10 x) (fun e st => match e with | .normal => coerce [(0, false), (4, false), (5, false), (6, false), (7, false), (8, false)] st rec | e => coerce (out_ref21_Read_10 e) st (K e)) = B_ref21_Read_10 (fun e0 e4 e5 e6 e7 => K (.exit 2) (St.ofList [(0, (.v (.sl 5 (.int .u8)) .s e0)), (4, (.v (.ptr 153 Ty24) (.o .s) (some e4))), (5, (.v (.sl 89 (.pair (.sl 86 (.sl 85 Ty0)) .unit)) (.o .s) e5)), (6, (.v (.int .u64) .s e6)), (7, (.v (.ptr 89 (.pair (.sl 86 (.sl 85 Ty0)) .unit)) (.o (.p (.o .s) .s)) (some e7)))])) (fun x => rec (S_ref21_Read_10 x)) x := by kernel_rfl
theorem ok_ref21_Read_10 : LoopOk env_ref21_Read lp_ref21_Read inl0 c_ref21_Read_10 := by
  refine loopOk_of (hd := [(0, false), (4, false), (5, false), (6, false), (7, false), (8, false)]) (out := out_ref21_Read_10) (S := S_ref21_Read_10) (fun _ K => B_ref21_Read_10 (fun e0 e4 e5 e6 e7 => K (.exit 2) (St.ofList [(0, (.v (.sl 5 (.int .u8)) .s e0)), (4, (.v (.ptr 153 Ty24) (.o .s) (some e4))), (5, (.v (.sl 89 (.pair (.sl 86 (.sl 85 Ty0)) .unit)) (.o .s) e5)), (6, (.v (.int .u64) .s e6)), (7, (.v (.ptr 89 (.pair (.sl 86 (.sl 85 Ty0)) .unit)) (.o (.p (.o .s) .s)) (some e7)))]))) fuel_ref21_Read_10 10 step_ref21_Read_10 (by kernel_rfl) (fun R K => fun st => mV (.sl 5 (.int .u8)) .s (st 0) fun y0 => mP 153 Ty24 (.o .s) (st 4) fun y4 => mV (.sl 89 (.pair (.sl 86 (.sl 85 Ty0)) .unit)) (.o .s) (st 5) fun y5 => mV (.int .u64) .s (st 6) fun y6 => mP 89 (.pair (.sl 86 (.sl 85 Ty0)) .unit) (.o (.p (.o .s) .s)) (st 7) fun y7 => mV (.int .u64) .s (st 8) fun y8 => loopN (B_ref21_Read_10 (fun e0 e4 e5 e6 e7 => K (.exit 2) (St.ofList [(0, (.v (.sl 5 (.int .u8)) .s e0)), (4, (.v (.ptr 153 Ty24) (.o .s) (some e4))), (5, (.v (.sl 89 (.pair (.sl 86 (.sl 85 Ty0)) .unit)) (.o .s) e5)), (6, (.v (.int .u64) .s e6)), (7, (.v (.ptr 89 (.pair (.sl 86 (.sl 85 Ty0)) .unit)) (.o (.p (.o .s) .s)) (some e7)))]))) (fuel_ref21_Read_10 ⟨y0, y4, y5, y6, y7, y8⟩) ⟨y0, y4, y5, y6, y7, y8⟩) (fun R st K => by kernel_rfl) ?_
  intro R K st r h
  obtain ⟨y0, hy0, h⟩ := mV_inv h
  obtain ⟨y4, hy4, h⟩ := mP_inv h
  obtain ⟨y5, hy5, h⟩ := mV_inv h
  obtain ⟨y6, hy6, h⟩ := mV_inv h
  obtain ⟨y7, hy7, h⟩ := mP_inv h
  obtain ⟨y8, hy8, h⟩ := mV_inv h
  exact ⟨⟨y0, y4, y5, y6, y7, y8⟩, only_of_list (ofList_cons hy0 (ofList_cons hy4 (ofList_cons hy5 (ofList_cons hy6 (ofList_cons hy7 (ofList_cons hy8 rfl)))))), h⟩
theorem step_ref21_Read_6 (R : Type) (K : Ex → St → Option R) (rec : St → Option R) (x : X_ref21_Read_6) : evC env_ref21_Read lp_ref21_Read inl0 c_ref21_Read_6 (S_ref21_Read_6 x) (fun e st => match e with | .normal => coerce [(0, false), (4, false), (5, false), (6, false)] st rec | e => coerce (out_ref21_Read_6 e) st (K e)) = B_ref21_Read_6 (fun e0 e4 e5 => K (.exit 0) (St.ofList [(0, (.v (.sl 5 (.int .u8)) .s e0)), (4, (.v (.ptr 153 Ty24) (.o .s) (some e4))), (5, (.v (.sl 89 (.pair (.sl 86 (.sl 85 Ty0)) .unit)) (.o .s) e5))])) (fun x => rec (S_ref21_Read_6 x)) x := by kernel_rfl
theorem ok_ref21_Read_6 : LoopOk env_ref21_Read lp_ref21_Read inl0 c_ref21_Read_6 := by
  refine loopOk_of (hd := [(0, false), (4, false), (5, false), (6, false)]) (out := out_ref21_Read_6) (S := S_ref21_Read_6) (fun _ K => B_ref21_Read_6 (fun e0 e4 e5 => K (.exit 0) (St.ofList [(0, (.v (.sl 5 (.int .u8)) .s e0)), (4, (.v (.ptr 153 Ty24) (.o .s) (some e4))), (5, (.v (.sl 89 (.pair (.sl 86 (.sl 85 Ty0)) .unit)) (.o .s) e5))]))) fuel_ref21_Read_6 6 step_ref21_Read_6 (by kernel_rfl) (fun R K => fun st => mV (.sl 5 (.int .u8)) .s (st 0) fun y0 => mP 153 Ty24 (.o .s) (st 4) fun y4 => mV (.sl 89 (.pair (.sl 86 (.sl 85 Ty0)) .unit)) (.o .s) (st 5) fun y5 => mV (.int .u64) .s (st 6) fun y6 => loopN (B_ref21_Read_6 (fun e0 e4 e5 => K (.exit 0) (St.ofList [(0, (.v (.sl 5 (.int .u8)) .s e0)), (4, (.v (.ptr 153 Ty24) (.o .s) (some e4))), (5, (.v (.sl 89 (.pair (.sl 86 (.sl 85 Ty0)) .unit)) (.o .s) e5))]))) (fuel_ref21_Read_6 ⟨y0, y4, y5, y6⟩) ⟨y0, y4, y5, y6⟩) (fun R st K => by kernel_rfl) ?_
  intro R K st r h
  obtain ⟨y0, hy0, h⟩ := mV_inv h
  obtain ⟨y4, hy4, h⟩ := mP_inv h
  obtain ⟨y5, hy5, h⟩ := mV_inv h
  obtain ⟨y6, hy6, h⟩ := mV_inv h
  exact ⟨⟨y0, y4, y5, y6⟩, only_of_list (ofList_cons hy0 (ofList_cons hy4 (ofList_cons hy5 (ofList_cons hy6 rfl)))), h⟩
theorem loops_ref21_Read : LoopsOk env_ref21_Read lp_ref21_Read inl0 (body Try.f30.body) := by
  refine loopsOk_of (fun c hc => ?_) (fun c hc => ?_)
  · rw [show loopsL (body Try.f30.body) = [c_ref21_Read_6, c_ref21_Read_10, c_ref21_Read_14] by kernel_rfl] at hc
    simp only [List.mem_cons, List.not_mem_nil, or_false] at hc
    rcases hc with rfl | rfl | rfl
    · exact ok_ref21_Read_6
    · exact ok_ref21_Read_10
    · exact ok_ref21_Read_14
  · rw [show joinsL env_ref21_Read (body Try.f30.body) = [] by kernel_rfl] at hc; cases hc
noncomputable def p_ref21_Read {R : Type} (a0 : List (Int)) (K : (List (It1)) → Int → Option R) : Option R :=
  let v1 := ((List.length a0 : Nat) : Int)
  let v2 := decide (v1 > (65536 : Int))
  cond v2
  (K ([] : List (It1)) (4 : Int))
  (p_ref21_cursor_num (a0, ((0 : Int), ((0 : Int), ()))) (64 : Int) fun r3 b4 =>
  loopN (B_ref21_Read_6 (fun w5 w6 w7 =>
  let v8 := w6.2.2.1 == (0 : Int)
  cond v8
  (let v9 := ((List.length w5 : Nat) : Int)
  let v10 := decide (w6.2.1 < v9)
  cond v10
  (let v11 := (2 : Int) != (0 : Int)
  cond v11
  (K ([] : List (It1)) (2 : Int))
  (K w7 (0 : Int)))
  (let v12 := w6.2.2.1 != (0 : Int)
  cond v12
  (K ([] : List (It1)) w6.2.2.1)
  (K w7 (0 : Int))))
  (let v13 := w6.2.2.1 != (0 : Int)
  cond v13
  (K ([] : List (It1)) w6.2.2.1)
  (K w7 (0 : Int))))) (fuel_ref21_Read_6 ⟨a0, b4, ([] : List (It1)), r3⟩) ⟨a0, b4, ([] : List (It1)), r3⟩)
noncomputable def cs_ref21_Read : CSpec := { ins := [(.val (.sl 5 (.int .u8)) .s)], outs := [((.sl 89 (.pair (.sl 86 (.sl 85 Ty0)) .unit)), (.o .s)), ((.int .i64), .s)], fn := fun (d : (List (Int)) × Unit) K _ => p_ref21_Read d.1 (fun r0 r1 => K ((r0, r1, ()) : (List (It1)) × Int × Unit) ((()) : Unit)) }
theorem h_ref21_Read : Holds Try.prog 30 cs_ref21_Read := by
  refine holds_of (env := env_ref21_Read) (inl := inl0) (fn := Try.f30) (code := body Try.f30.body) (rs := [(2, none), (3, none)]) (lp := lp_ref21_Read) mixed ⟨envTyOk.ty, envTyOk.eq⟩ gamOk_ref21_Read inl0_ok Try.func30 (by kernel_rfl) (by kernel_rfl) (by kernel_rfl) (by kernel_rfl) (by kernel_rfl) loops_ref21_Read (by kernel_rfl) ?_
  intro d R K Kp res h
  have : evC env_ref21_Read lp_ref21_Read inl0 (body Try.f30.body) (St.start cs_ref21_Read.ins d) (retK env_ref21_Read cs_ref21_Read.ins cs_ref21_Read.outs [(2, none), (3, none)] cs_ref21_Read.pan K Kp) = cs_ref21_Read.fn d K Kp := by kernel_rfl
  rw [this]; exact h
-- f20 trammel/trammelref21.Same
noncomputable def lv_ref21_Same : Nat → Option (List Nat)
  | 0 => some [0, 1]
  | 1 => some [0, 1]
  | 2 => some []
  | 3 => some [0, 1]
  | 4 => some [0, 1, 5]
  | 5 => some [0, 1, 5]
  | 6 => some [0, 1, 5]
  | 7 => some []
  | 8 => some [0, 1, 5]
  | 9 => some [0, 1, 5, 6]
  | 10 => some [0, 1, 5, 6]
  | 11 => some [0, 1, 5, 6]
  | 12 => some [0, 1, 5, 6, 7, 8]
  | 13 => some []
  | 14 => some [0, 1, 5, 6, 7, 8]
  | 15 => some [0, 1, 5, 6, 7, 8, 9]
  | 16 => some [0, 1, 5, 6, 7, 8, 9]
  | 17 => some [0, 1, 5, 6, 7, 8, 9]
  | 18 => some []
  | 19 => some []
  | _ => none
noncomputable def env_ref21_Same : Env := { ty := envTy, eq := envEq, gam := noG, n := Try.f20.ntmps, lv := lv_ref21_Same }
structure X_ref21_Same_15 where
  f0 : List (It1)
  f1 : List (It1)
  f5 : Int
  f6 : Int
  f7 : List (((Int) × (Int) × Unit) × ((Int) × (Int) × Unit) × Unit)
  f8 : List (((Int) × (Int) × Unit) × ((Int) × (Int) × Unit) × Unit)
  f9 : Int

noncomputable def B_ref21_Same_15 {R : Type} (k_ret : Bool → Option R) (k_exit_4 : (List (It1)) → (List (It1)) → Int → Int → Option R) (rec : X_ref21_Same_15 → Option R) (x : X_ref21_Same_15) : Option R :=
  let v1 := ((List.length x.f7 : Nat) : Int)
  let v2 := decide (x.f9 < v1)
  cond v2
  (cond (inB x.f9 (List.length x.f7))
  (let v3 := List.getD x.f7 x.f9.toNat (((0 : Int), ((0 : Int), ())), (((0 : Int), ((0 : Int), ())), ()))
  cond (inB x.f9 (List.length x.f8))
  (let v4 := List.getD x.f8 x.f9.toNat (((0 : Int), ((0 : Int), ())), (((0 : Int), ((0 : Int), ())), ()))
  let v5 := !(((v3.1.1 == v4.1.1) && ((v3.1.2.1 == v4.1.2.1) && true)) && (((v3.2.1.1 == v4.2.1.1) && ((v3.2.1.2.1 == v4.2.1.2.1) && true)) && true))
  cond v5
  (k_ret false)
  (let v6 := IntKind.i64.wrap (x.f9 + (1 : Int))
  rec ⟨x.f0, x.f1, x.f5, x.f6, x.f7, x.f8, v6⟩)) none) none)
  (k_exit_4 x.f0 x.f1 x.f5 x.f6)
noncomputable def S_ref21_Same_15 (x : X_ref21_Same_15) : St := St.ofList [(0, (.v (.sl 89 (.pair (.sl 86 (.sl 85 Ty0)) .unit)) .s x.f0)), (1, (.v (.sl 89 (.pair (.sl 86 (.sl 85 Ty0)) .unit)) .s x.f1)), (5, (.v (.int .i64) .s x.f5)), (6, (.v (.int .i64) .s x.f6)), (7, (.v (.sl 85 Ty0) .s x.f7)), (8, (.v (.sl 85 Ty0) .s x.f8)), (9, (.v (.int .i64) .s x.f9))]
def out_ref21_Same_15 : Ex → List (Nat × Bool) | .ret => [(4, false)] | .exit 4 => [(0, false), (1, false), (5, false), (6, false)] | _ => []
noncomputable def fuel_ref21_Same_15 (x : X_ref21_Same_15) : Nat := fuel64
noncomputable def c_ref21_Same_15 : Code := match loopAt 15 (body Try.f20.body) with | some c => c | none => .skip
structure X_ref21_Same_9 where
  f0 : List (It1)
  f1 : List (It1)
  f5 : Int
  f6 : Int

noncomputable def B_ref21_Same_9 {R : Type} (k_ret : Bool → Option R) (k_exit_2 : (List (It1)) → (List (It1)) → Int → Option R) (rec : X_ref21_Same_9 → Option R) (x : X_ref21_Same_9) : Option R :=
  cond (inB x.f5 (List.length x.f0))
  (let v1 := List.getD x.f0 x.f5.toNat (([] : List (List (((Int) × (Int) × Unit) × ((Int) × (Int) × Unit) × Unit))), ())
  let v2 := ((List.length v1.1 : Nat) : Int)
  let v3 := decide (x.f6 < v2)
  cond v3
  (cond (inB x.f5 (List.length x.f0))
  (let v4 := List.getD x.f0 x.f5.toNat (([] : List (List (((Int) × (Int) × Unit) × ((Int) × (Int) × Unit) × Unit))), ())
  cond (inB x.f6 (List.length v4.1))
  (let v5 := List.getD v4.1 x.f6.toNat ([] : List (((Int) × (Int) × Unit) × ((Int) × (Int) × Unit) × Unit))
  cond (inB x.f5 (List.length x.f1))
  (let v6 := List.getD x.f1 x.f5.toNat (([] : List (List (((Int) × (Int) × Unit) × ((Int) × (Int) × Unit) × Unit))), ())
  cond (inB x.f6 (List.length v6.1))
  (let v7 := List.getD v6.1 x.f6.toNat ([] : List (((Int) × (Int) × Unit) × ((Int) × (Int) × Unit) × Unit))
  let v8 := ((List.length v5 : Nat) : Int)
  let v9 := ((List.length v7 : Nat) : Int)
  let v10 := v8 != v9
  cond v10
  (k_ret false)
  (loopN (B_ref21_Same_15 (fun w11 =>
  k_ret w11) (fun w12 w13 w14 w15 =>
  let v16 := IntKind.i64.wrap (w15 + (1 : Int))
  rec ⟨w12, w13, w14, v16⟩)) (fuel_ref21_Same_15 ⟨x.f0, x.f1, x.f5, x.f6, v5, v7, (0 : Int)⟩) ⟨x.f0, x.f1, x.f5, x.f6, v5, v7, (0 : Int)⟩)) none) none) none) none)
  (k_exit_2 x.f0 x.f1 x.f5)) none
noncomputable def S_ref21_Same_9 (x : X_ref21_Same_9) : St := St.ofList [(0, (.v (.sl 89 (.pair (.sl 86 (.sl 85 Ty0)) .unit)) .s x.f0)), (1, (.v (.sl 89 (.pair (.sl 86 (.sl 85 Ty0)) .unit)) .s x.f1)), (5, (.v (.int .i64) .s x.f5)), (6, (.v (.int .i64) .s x.f6))]
def out_ref21_Same_9 : Ex → List (Nat × Bool) | .ret => [(4, false)] | .exit 2 => [(0, false), (1, false), (5, false)] | _ => []
noncomputable def fuel_ref21_Same_9 (x : X_ref21_Same_9) : Nat := fuel64
noncomputable def c_ref21_Same_9 : Code := match loopAt 9 (body Try.f20.body) with | some c => c | none => .skip
structure X_ref21_Same_4 where
  f0 : List (It1)
  f1 : List (It1)
  f5 : Int

noncomputable def B_ref21_Same_4 {R : Type} (k_ret : Bool → Option R) (k_exit_0 : Option R) (rec : X_ref21_Same_4 → Option R) (x : X_ref21_Same_4) : Option R :=
  let v1 := ((List.length x.f0 : Nat) : Int)
  let v2 := decide (x.f5 < v1)
  cond v2
  (cond (inB x.f5 (List.length x.f0))
  (let v3 := List.getD x.f0 x.f5.toNat (([] : List (List (((Int) × (Int) × Unit) × ((Int) × (Int) × Unit) × Unit))), ())
  let v4 := ((List.length v3.1 : Nat) : Int)
  cond (inB x.f5 (List.length x.f1))
  (let v5 := List.getD x.f1 x.f5.toNat (([] : List (List (((Int) × (Int) × Unit) × ((Int) × (Int) × Unit) × Unit))), ())
  let v6 := ((List.length v5.1 : Nat) : Int)
  let v7 := v4 != v6
  cond v7
  (k_ret false)
  (loopN (B_ref21_Same_9 (fun w8 =>
  k_ret w8) (fun w9 w10 w11 =>
  let v12 := IntKind.i64.wrap (w11 + (1 : Int))
  rec ⟨w9, w10, v12⟩)) (fuel_ref21_Same_9 ⟨x.f0, x.f1, x.f5, (0 : Int)⟩) ⟨x.f0, x.f1, x.f5, (0 : Int)⟩)) none) none)
  (k_exit_0)
noncomputable def S_ref21_Same_4 (x : X_ref21_Same_4) : St := St.ofList [(0, (.v (.sl 89 (.pair (.sl 86 (.sl 85 Ty0)) .unit)) .s x.f0)), (1, (.v (.sl 89 (.pair (.sl 86 (.sl 85 Ty0)) .unit)) .s x.f1)), (5, (.v (.int .i64) .s x.f5))]
def out_ref21_Same_4 : Ex → List (Nat × Bool) | .ret => [(4, false)] | .exit 0 => [] | _ => []
noncomputable def fuel_ref21_Same_4 (x : X_ref21_Same_4) : Nat := fuel64
noncomputable def c_ref21_Same_4 : Code := match loopAt 4 (body Try.f20.body) with | some c => c | none => .skip
noncomputable def lp_ref21_Same : Loops := fun z i R st K => match z, i with
  | false, 15 => coerce [(0, false), (1, false), (5, false), (6, false), (7, false), (8, false), (9, false)] st (fun st => mV (.sl 89 (.pair (.sl 86 (.sl 85 Ty0)) .unit)) .s (st 0) fun y0 => mV (.sl 89 (.pair (.sl 86 (.sl 85 Ty0)) .unit)) .s (st 1) fun y1 => mV (.int .i64) .s (st 5) fun y5 => mV (.int .i64) .s (st 6) fun y6 => mV (.sl 85 Ty0) .s (st 7) fun y7 => mV (.sl 85 Ty0) .s (st 8) fun y8 => mV (.int .i64) .s (st 9) fun y9 => loopN (B_ref21_Same_15 (fun e4 => K .ret (St.ofList [(4, (.v .bool .s e4))])) (fun e0 e1 e5 e6 => K (.exit 4) (St.ofList [(0, (.v (.sl 89 (.pair (.sl 86 (.sl 85 Ty0)) .unit)) .s e0)), (1, (.v (.sl 89 (.pair (.sl 86 (.sl 85 Ty0)) .unit)) .s e1)), (5, (.v (.int .i64) .s e5)), (6, (.v (.int .i64) .s e6))]))) (fuel_ref21_Same_15 ⟨y0, y1, y5, y6, y7, y8, y9⟩) ⟨y0, y1, y5, y6, y7, y8, y9⟩)
  | false, 9 => coerce [(0, false), (1, false), (5, false), (6, false)] st (fun st => mV (.sl 89 (.pair (.sl 86 (.sl 85 Ty0)) .unit)) .s (st 0) fun y0 => mV (.sl 89 (.pair (.sl 86 (.sl 85 Ty0)) .unit)) .s (st 1) fun y1 => mV (.int .i64) .s (st 5) fun y5 => mV (.int .i64) .s (st 6) fun y6 => loopN (B_ref21_Same_9 (fun e4 => K .ret (St.ofList [(4, (.v .bool .s e4))])) (fun e0 e1 e5 => K (.exit 2) (St.ofList [(0, (.v (.sl 89 (.pair (.sl 86 (.sl 85 Ty0)) .unit)) .s e0)), (1, (.v (.sl 89 (.pair (.sl 86 (.sl 85 Ty0)) .unit)) .s e1)), (5, (.v (.int .i64) .s e5))]))) (fuel_ref21_Same_9 ⟨y0, y1, y5, y6⟩) ⟨y0, y1, y5, y6⟩)
  | false, 4 => coerce [(0, false), (1, false), (5, false)] st (fun st => mV (.sl 89 (.pair (.sl 86 (.sl 85 Ty0)) .unit)) .s (st 0) fun y0 => mV (.sl 89 (.pair (.sl 86 (.sl 85 Ty0)) .unit)) .s (st 1) fun y1 => mV (.int .i64) .s (st 5) fun y5 => loopN (B_ref21_Same_4 (fun e4 => K .ret (St.ofList [(4, (.v .bool .s e4))])) (K (.exit 0) (St.ofList []))) (fuel_ref21_Same_4 ⟨y0, y1, y5⟩) ⟨y0, y1, y5⟩)
  | _, _ => none
theorem step_ref21_Same_15 (R : Type) (K : Ex → St → Option R) (rec : St → Option R) (x : X_ref21_Same_15) : evC env_ref21_Same lp_ref21_Same inl0 c_ref21_Same_15 (S_ref21_Same_15 x) (fun e st => match e with | .normal => coerce [(0, false), (1, false), (5, false), (6, false), (7, false), (8, false), (9, false)] st rec | e => coerce (out_ref21_Same_15 e) st (K e)) = B_ref21_Same_15 (fun e4 => K .ret (St.ofList [(4, (.v .bool .s e4))])) (fun e0 e1 e5 e6 => K (.exit 4) (St.ofList [(0, (.v (.sl 89 (.pair (.sl 86 (.sl 85 Ty0)) .unit)) .s e0)), (1, (.v (.sl 89 (.pair (.sl 86 (.sl 85 Ty0)) .unit)) .s e1)), (5, (.v (.int .i64) .s e5)), (6, (.v (.int .i64) .s e6))])) (fun x => rec (S_ref21_Same_15 x)) x := by kernel_rfl
theorem ok_ref21_Same_15 : LoopOk env_ref21_Same lp_ref21_Same inl0 c_ref21_Same_15 := by
  refine loopOk_of (hd := [(0, false), (1, false), (5, false), (6, false), (7, false), (8, false), (9, false)]) (out := out_ref21_Same_15) (S := S_ref21_Same_15) (fun _ K => B_ref21_Same_15 (fun e4 => K .ret (St.ofList [(4, (.v .bool .s e4))])) (fun e0 e1 e5 e6 => K (.exit 4) (St.ofList [(0, (.v (.sl 89 (.pair (.sl 86 (.sl 85 Ty0)) .unit)) .s e0)), (1, (.v (.sl 89 (.pair (.sl 86 (.sl 85 Ty0)) .unit)) .s e1)), (5, (.v (.int .i64) .s e5)), (6, (.v (.int .i64) .s e6))]))) fuel_ref21_Same_15 15 step_ref21_Same_15 (by kernel_rfl) (fun R K => fun st => mV (.sl 89 (.pair (.sl 86 (.sl 85 Ty0)) .unit)) .s (st 0) fun y0 => mV (.sl 89 (.pair (.sl 86 (.sl 85 Ty0)) .unit)) .s (st 1) fun y1 => mV (.int .i64) .s (st 5) fun y5 => mV (.int .i64) .s (st 6) fun y6 => mV (.sl 85 Ty0) .s (st 7) fun y7 => mV (.sl 85 Ty0) .s (st 8) fun y8 => mV (.int .i64) .s (st 9) fun y9 => loopN (B_ref21_Same_15 (fun e4 => K .ret (St.ofList [(4, (.v .bool .s e4))])) (fun e0 e1 e5 e6 => K (.exit 4) (St.ofList [(0, (.v (.sl 89 (.pair (.sl 86 (.sl 85 Ty0)) .unit)) .s e0)), (1, (.v (.sl 89 (.pair (.sl 86 (.sl 85 Ty0)) .unit)) .s e1)), (5, (.v (.int .i64) .s e5)), (6, (.v (.int .i64) .s e6))]))) (fuel_ref21_Same_15 ⟨y0, y1, y5, y6, y7, y8, y9⟩) ⟨y0, y1, y5, y6, y7, y8, y9⟩) (fun R st K => by kernel_rfl) ?_
  intro R K st r h
  obtain ⟨y0, hy0, h⟩ := mV_inv h
  obtain ⟨y1, hy1, h⟩ := mV_inv h
  obtain ⟨y5, hy5, h⟩ := mV_inv h
  obtain ⟨y6, hy6, h⟩ := mV_inv h
  obtain ⟨y7, hy7, h⟩ := mV_inv h
  obtain ⟨y8, hy8, h⟩ := mV_inv h
  obtain ⟨y9, hy9, h⟩ := mV_inv h
  exact ⟨⟨y0, y1, y5, y6, y7, y8, y9⟩, only_of_list (ofList_cons hy0 (ofList_cons hy1 (ofList_cons hy5 (ofList_cons hy6 (ofList_cons hy7 (ofList_cons hy8 (ofList_cons hy9 rfl))))))), h⟩
theorem step_ref21_Same_9 (R : Type) (K : Ex → St → Option R) (rec : St → Option R) (x : X_ref21_Same_9) : evC env_ref21_Same lp_ref21_Same inl0 c_ref21_Same_9 (S_ref21_Same_9 x) (fun e st => match e with | .normal => coerce [(0, false), (1, false), (5, false), (6, false)] st rec | e => coerce (out_ref21_Same_9 e) st (K e)) = B_ref21_Same_9 (fun e4 => K .ret (St.ofList [(4, (.v .bool .s e4))])) (fun e0 e1 e5 => K (.exit 2) (St.ofList [(0, (.v (.sl 89 (.pair (.sl 86 (.sl 85 Ty0)) .unit)) .s e0)), (1, (.v (.sl 89 (.pair (.sl 86 (.sl 85 Ty0)) .unit)) .s e1)), (5, (.v (.int .i64) .s e5))])) (fun x => rec (S_ref21_Same_9 x)) x := by kernel_rfl
theorem ok_ref21_Same_9 : LoopOk env_ref21_Same lp_ref21_Same inl0 c_ref21_Same_9 := by
  refine loopOk_of (hd := [(0, false), (1, false), (5, false), (6, false)]) (out := out_ref21_Same_9) (S := S_ref21_Same_9) (fun _ K => B_ref21_Same_9 (fun e4 => K .ret (St.ofList [(4, (.v .bool .s e4))])) (fun e0 e1 e5 => K (.exit 2) (St.ofList [(0, (.v (.sl 89 (.pair (.sl 86 (.sl 85 Ty0)) .unit)) .s e0)), (1, (.v (.sl 89 (.pair (.sl 86 (.sl 85 Ty0)) .unit)) .s e1)), (5, (.v (.int .i64) .s e5))]))) fuel_ref21_Same_9 9 step_ref21_Same_9 (by kernel_rfl) (fun R K => fun st => mV (.sl 89 (.pair (.sl 86 (.sl 85 Ty0)) .unit)) .s (st 0) fun y0 => mV (.sl 89 (.pair (.sl 86 (.sl 85 Ty0)) .unit)) .s (st 1) fun y1 => mV (.int .i64) .s (st 5) fun y5 => mV (.int .i64) .s (st 6) fun y6 => loopN (B_ref21_Same_9 (fun e4 => K .ret (St.ofList [(4, (.v .bool .s e4))])) (fun e0 e1 e5 => K (.exit 2) (St.ofList [(0, (.v (.sl 89 (.pair (.sl 86 (.sl 85 Ty0)) .unit)) .s e0)), (1, (.v (.sl 89 (.pair (.sl 86 (.sl 85 Ty0)) .unit)) .s e1)), (5, (.v (.int .i64) .s e5))]))) (fuel_ref21_Same_9 ⟨y0, y1, y5, y6⟩) ⟨y0, y1, y5, y6⟩) (fun R st K => by kernel_rfl) ?_
  intro R K st r h
  obtain ⟨y0, hy0, h⟩ := mV_inv h
  obtain ⟨y1, hy1, h⟩ := mV_inv h
  obtain ⟨y5, hy5, h⟩ := mV_inv h
  obtain ⟨y6, hy6, h⟩ := mV_inv h
  exact ⟨⟨y0, y1, y5, y6⟩, only_of_list (ofList_cons hy0 (ofList_cons hy1 (ofList_cons hy5 (ofList_cons hy6 rfl)))), h⟩
theorem step_ref21_Same_4 (R : Type) (K : Ex → St → Option R) (rec : St → Option R) (x : X_ref21_Same_4) : evC env_ref21_Same lp_ref21_Same inl0 c_ref21_Same_4 (S_ref21_Same_4 x) (fun e st => match e with | .normal => coerce [(0, false), (1, false), (5, false)] st rec | e => coerce (out_ref21_Same_4 e) st (K e)) = B_ref21_Same_4 (fun e4 => K .ret (St.ofList [(4, (.v .bool .s e4))])) (K (.exit 0) (St.ofList [])) (fun x => rec (S_ref21_Same_4 x)) x := by kernel_rfl
theorem ok_ref21_Same_4 : LoopOk env_ref21_Same lp_ref21_Same inl0 c_ref21_Same_4 := by
  refine loopOk_of (hd := [(0, false), (1, false), (5, false)]) (out := out_ref21_Same_4) (S := S_ref21_Same_4) (fun _ K => B_ref21_Same_4 (fun e4 => K .ret (St.ofList [(4, (.v .bool .s e4))])) (K (.exit 0) (St.ofList []))) fuel_ref21_Same_4 4 step_ref21_Same_4 (by kernel_rfl) (fun R K => fun st => mV (.sl 89 (.pair (.sl 86 (.sl 85 Ty0)) .unit)) .s (st 0) fun y0 => mV (.sl 89 (.pair (.sl 86 (.sl 85 Ty0)) .unit)) .s (st 1) fun y1 => mV (.int .i64) .s (st 5) fun y5 => loopN (B_ref21_Same_4 (fun e4 => K .ret (St.ofList [(4, (.v .bool .s e4))])) (K (.exit 0) (St.ofList []))) (fuel_ref21_Same_4 ⟨y0, y1, y5⟩) ⟨y0, y1, y5⟩) (fun R st K => by kernel_rfl) ?_
  intro R K st r h
  obtain ⟨y0, hy0, h⟩ := mV_inv h
  obtain ⟨y1, hy1, h⟩ := mV_inv h
  obtain ⟨y5, hy5, h⟩ := mV_inv h
  exact ⟨⟨y0, y1, y5⟩, only_of_list (ofList_cons hy0 (ofList_cons hy1 (ofList_cons hy5 rfl))), h⟩
theorem loops_ref21_Same : LoopsOk env_ref21_Same lp_ref21_Same inl0 (body Try.f20.body) := by
  refine loopsOk_of (fun c hc => ?_) (fun c hc => ?_)
  · rw [show loopsL (body Try.f20.body) = [c_ref21_Same_4, c_ref21_Same_9, c_ref21_Same_15] by kernel_rfl] at hc
    simp only [List.mem_cons, List.not_mem_nil, or_false] at hc
    rcases hc with rfl | rfl | rfl
    · exact ok_ref21_Same_4
    · exact ok_ref21_Same_9
    · exact ok_ref21_Same_15
  · rw [show joinsL env_ref21_Same (body Try.f20.body) = [] by kernel_rfl] at hc; cases hc
noncomputable def p_ref21_Same {R : Type} (a0 : List (It1)) (a1 : List (It1)) (K : Bool → Option R) : Option R :=
  let v1 := ((List.length a0 : Nat) : Int)
  let v2 := ((List.length a1 : Nat) : Int)
  let v3 := v1 != v2
  cond v3
  (K false)
  (loopN (B_ref21_Same_4 (fun w4 =>
  K w4) (K true)) (fuel_ref21_Same_4 ⟨a0, a1, (0 : Int)⟩) ⟨a0, a1, (0 : Int)⟩)
noncomputable def cs_ref21_Same : CSpec := { ins := [(.val (.sl 89 (.pair (.sl 86 (.sl 85 Ty0)) .unit)) .s), (.val (.sl 89 (.pair (.sl 86 (.sl 85 Ty0)) .unit)) .s)], outs := [(.bool, .s)], fn := fun (d : (List (It1)) × (List (It1)) × Unit) K _ => p_ref21_Same d.1 d.2.1 (fun r0 => K ((r0, ()) : Bool × Unit) ((()) : Unit)) }
theorem h_ref21_Same : Holds Try.prog 20 cs_ref21_Same := by
  refine holds_of (env := env_ref21_Same) (inl := inl0) (fn := Try.f20) (code := body Try.f20.body) (rs := [(4, none)]) (lp := lp_ref21_Same) mixed ⟨envTyOk.ty, envTyOk.eq⟩ (fun _ _ _ h => by cases h) inl0_ok Try.func20 (by kernel_rfl) (by kernel_rfl) (by kernel_rfl) (by kernel_rfl) (by kernel_rfl) loops_ref21_Same (by kernel_rfl) ?_
  intro d R K Kp res h
  have : evC env_ref21_Same lp_ref21_Same inl0 (body Try.f20.body) (St.start cs_ref21_Same.ins d) (retK env_ref21_Same cs_ref21_Same.ins cs_ref21_Same.outs [(4, none)] cs_ref21_Same.pan K Kp) = cs_ref21_Same.fn d K Kp := by kernel_rfl
  rw [this]; exact h
-- f31 trammel/cert.With
noncomputable def gam_cert_With : FuncId → List FuncId → Option CSpec
  | 16, [] => some cs_cert_Put
  | 27, [] => some cs_cert_Strip
  | _, _ => none
noncomputable def env_cert_With : Env := { ty := envTy, eq := envEq, gam := gam_cert_With, n := Try.f31.ntmps }
theorem gamOk_cert_With : EnvFn Try.prog env_cert_With := by
  intro f gs c h
  unfold env_cert_With gam_cert_With at h
  simp only at h
  split at h <;> first | (cases h; done) | (cases h; exact h_cert_Put) | (cases h; exact h_cert_Strip)
noncomputable def p_cert_With {R : Type} (a0 : It10) (a1 : List (It1)) (K : It10 → Int → Option R) : Option R :=
  p_cert_Put a1 fun r1 r2 =>
  let v3 := r2 != (0 : Int)
  cond v3
  (K (([] : List ((List (Int)) × (List (Int)) × Unit)), (([] : List ((List UInt8) × It3)), (([] : List ((Int) × It4)), (([] : List ((Int) × (Bool) × (Int) × Unit)), (([] : List ((Int) × (Bool) × (Int) × Unit)), (([] : List ((Int) × It5)), (([] : List ((List UInt8) × (Int) × (Int) × Unit)), (([] : List (Int)), (([] : List ((Int) × It6)), (([] : List (Int)), (([] : List ((Int) × It6)), (([] : List ((List UInt8) × (List (Int)) × Unit)), ())))))))))))) r2)
  (p_cert_Strip a0 fun r4 =>
  let v5 := List.set (List.replicate 1 (([] : List UInt8), (([] : List (Int)), ()))) 0 (([116, 114, 97, 109, 109, 101, 108, 46, 99, 108, 97, 105, 109, 115] : List UInt8), (r1, ()))
  cond (decide (List.length r4.2.2.2.2.2.2.2.2.2.2.2.1 + List.length v5 ≤ most))
  (let v6 := r4.2.2.2.2.2.2.2.2.2.2.2.1 ++ v5
  K (r4.1, (r4.2.1, (r4.2.2.1, (r4.2.2.2.1, (r4.2.2.2.2.1, (r4.2.2.2.2.2.1, (r4.2.2.2.2.2.2.1, (r4.2.2.2.2.2.2.2.1, (r4.2.2.2.2.2.2.2.2.1, (r4.2.2.2.2.2.2.2.2.2.1, (r4.2.2.2.2.2.2.2.2.2.2.1, (v6, r4.2.2.2.2.2.2.2.2.2.2.2.2)))))))))))) (0 : Int)) none)
noncomputable def cs_cert_With : CSpec := { ins := [(.val (.pair Ty11 Ty23) .s), (.val (.sl 89 (.pair (.sl 86 (.sl 85 Ty0)) .unit)) .s)], outs := [((.pair Ty11 Ty23), .s), ((.int .i64), .s)], fn := fun (d : It10 × (List (It1)) × Unit) K _ => p_cert_With d.1 d.2.1 (fun r0 r1 => K ((r0, r1, ()) : It10 × Int × Unit) ((()) : Unit)) }
theorem h_cert_With : Holds Try.prog 31 cs_cert_With := by
  refine holds_of (env := env_cert_With) (inl := inl0) (fn := Try.f31) (code := body Try.f31.body) (rs := [(4, some 62), (5, none)]) (lp := lp0) mixed ⟨envTyOk.ty, envTyOk.eq⟩ gamOk_cert_With inl0_ok Try.func31 (by kernel_rfl) (by kernel_rfl) (by kernel_rfl) (by kernel_rfl) (by kernel_rfl) (loopsOk_none (by kernel_rfl) (by kernel_rfl)) (by kernel_rfl) ?_
  intro d R K Kp res h
  have : evC env_cert_With lp0 inl0 (body Try.f31.body) (St.start cs_cert_With.ins d) (retK env_cert_With cs_cert_With.ins cs_cert_With.outs [(4, some 62), (5, none)] cs_cert_With.pan K Kp) = cs_cert_With.fn d K Kp := by kernel_rfl
  rw [this]; exact h
-- f38 trammel/trammelref21.right
noncomputable def env_ref21_right : Env := { ty := envTy, eq := envEq, gam := noG, n := Try.f38.ntmps }
noncomputable def p_ref21_right {R : Type} (a0 : ((Int) × (Int) × Unit) × ((Int) × (Int) × Unit) × Unit) (K : Bool → Option R) : Option R :=
  let v1 := decide (a0.1.1 ≤ a0.1.2.1)
  cond v1
  (let v2 := decide (a0.2.1.1 ≥ (0 : Int))
  cond v2
  (let v3 := decide (a0.2.1.1 ≤ (64 : Int))
  cond v3
  (let v4 := a0.2.1.1 == (64 : Int)
  cond v4
  (K true)
  (let v5 := IntKind.u64.wrap a0.2.1.1
  cond (decide (0 ≤ v5))
  (let v6 := shrI .u64 a0.2.1.2.1 v5
  let v7 := v6 == (0 : Int)
  K v7) none))
  (K false))
  (K false))
  (K false)
noncomputable def cs_ref21_right : CSpec := { ins := [(.val Ty0 .s)], outs := [(.bool, .s)], fn := fun (d : (((Int) × (Int) × Unit) × ((Int) × (Int) × Unit) × Unit) × Unit) K _ => p_ref21_right d.1 (fun r0 => K ((r0, ()) : Bool × Unit) ((()) : Unit)) }
theorem h_ref21_right : Holds Try.prog 38 cs_ref21_right := by
  refine holds_of (env := env_ref21_right) (inl := inl0) (fn := Try.f38) (code := body Try.f38.body) (rs := [(2, none)]) (lp := lp0) mixed ⟨envTyOk.ty, envTyOk.eq⟩ (fun _ _ _ h => by cases h) inl0_ok Try.func38 (by kernel_rfl) (by kernel_rfl) (by kernel_rfl) (by kernel_rfl) (by kernel_rfl) (loopsOk_none (by kernel_rfl) (by kernel_rfl)) (by kernel_rfl) ?_
  intro d R K Kp res h
  have : evC env_ref21_right lp0 inl0 (body Try.f38.body) (St.start cs_ref21_right.ins d) (retK env_ref21_right cs_ref21_right.ins cs_ref21_right.outs [(2, none)] cs_ref21_right.pan K Kp) = cs_ref21_right.fn d K Kp := by kernel_rfl
  rw [this]; exact h
-- f17 trammel/trammelref21.Bytes
noncomputable def gam_ref21_Bytes : FuncId → List FuncId → Option CSpec
  | 38, [] => some cs_ref21_right
  | 39, [] => some cs_ref01_PutU
  | _, _ => none
noncomputable def fs_ref21_Bytes : Nat → Bool
  | 9 => true
  | _ => false
noncomputable def lv_ref21_Bytes : Nat → Option (List Nat)
  | 0 => some [0]
  | 1 => some [0]
  | 2 => some [0, 4]
  | 3 => some [0, 4, 5]
  | 4 => some [0, 4, 5, 6]
  | 5 => some [0, 4, 5, 6]
  | 6 => some [0, 4, 5, 6]
  | 7 => some [0, 4, 5, 6]
  | 8 => some [0, 4, 5, 6]
  | 9 => some [0, 4, 5, 6, 7]
  | 10 => some [0, 4, 5, 6, 7]
  | 11 => some [0, 4, 5, 6, 7]
  | 12 => some [0, 4, 5, 6, 7]
  | 13 => some [0, 4, 5, 6, 7]
  | 14 => some [0, 4, 5, 6, 7, 8]
  | 15 => some [0, 4, 5, 6, 7, 8]
  | 16 => some [0, 4, 5, 6, 7, 8]
  | 17 => some [0, 4, 5, 6, 7, 8, 9]
  | 18 => some []
  | 19 => some [0, 4, 5, 6, 7, 8, 9]
  | 20 => some [4, 5]
  | 21 => some [4, 5, 10]
  | 22 => some [4, 5, 10, 11]
  | 23 => some [4, 5, 10, 11]
  | 24 => some [4, 5, 10, 11]
  | 25 => some [5, 10]
  | 26 => some []
  | 27 => some [10]
  | _ => none
noncomputable def env_ref21_Bytes : Env := { ty := envTy, eq := envEq, gam := gam_ref21_Bytes, n := Try.f17.ntmps, fs := fs_ref21_Bytes, lv := lv_ref21_Bytes }
theorem gamOk_ref21_Bytes : EnvFn Try.prog env_ref21_Bytes := by
  intro f gs c h
  unfold env_ref21_Bytes gam_ref21_Bytes at h
  simp only at h
  split at h <;> first | (cases h; done) | (cases h; exact h_ref21_right) | (cases h; exact h_ref01_PutU)
structure X_ref21_Bytes_14 where
  f0 : List (It1)
  f4 : List (Int)
  f5 : Bool
  f6 : Int
  f7 : Int
  f8 : Int

noncomputable def B_ref21_Bytes_14 {R : Type} (k_ret : (List (Int)) → Int → Option R) (k_exit_4 : (List (It1)) → (List (Int)) → Bool → Int → Int → Option R) (rec : X_ref21_Bytes_14 → Option R) (x : X_ref21_Bytes_14) : Option R :=
  cond (inB x.f6 (List.length x.f0))
  (let v1 := List.getD x.f0 x.f6.toNat (([] : List (List (((Int) × (Int) × Unit) × ((Int) × (Int) × Unit) × Unit))), ())
  cond (inB x.f7 (List.length v1.1))
  (let v2 := List.getD v1.1 x.f7.toNat ([] : List (((Int) × (Int) × Unit) × ((Int) × (Int) × Unit) × Unit))
  let v3 := ((List.length v2 : Nat) : Int)
  let v4 := decide (x.f8 < v3)
  cond v4
  (cond (inB x.f6 (List.length x.f0))
  (let v5 := List.getD x.f0 x.f6.toNat (([] : List (List (((Int) × (Int) × Unit) × ((Int) × (Int) × Unit) × Unit))), ())
  cond (inB x.f7 (List.length v5.1))
  (let v6 := List.getD v5.1 x.f7.toNat ([] : List (((Int) × (Int) × Unit) × ((Int) × (Int) × Unit) × Unit))
  cond (inB x.f8 (List.length v6))
  (let v7 := List.getD v6 x.f8.toNat (((0 : Int), ((0 : Int), ())), (((0 : Int), ((0 : Int), ())), ()))
  p_ref21_right v7 fun r8 =>
  let v9 := !r8
  cond v9
  (k_ret ([] : List (Int)) (2 : Int))
  (let v10 := IntKind.u64.wrap v7.2.1.1
  let v11 := List.set (List.set (List.set (List.set (List.replicate 4 (0 : Int)) 0 v7.1.1) 1 v7.1.2.1) 2 v10) 3 v7.2.1.2.1
  cond (decide (List.length x.f4 + List.length v11 ≤ most))
  (let v12 := x.f4 ++ v11
  let v13 := IntKind.i64.wrap (x.f8 + (1 : Int))
  rec ⟨x.f0, v12, x.f5, x.f6, x.f7, v13⟩) none)) none) none) none)
  (k_exit_4 x.f0 x.f4 x.f5 x.f6 x.f7)) none) none
noncomputable def S_ref21_Bytes_14 (x : X_ref21_Bytes_14) : St := St.ofList [(0, (.v (.sl 89 (.pair (.sl 86 (.sl 85 Ty0)) .unit)) .s x.f0)), (4, (.v (.sl 75 (.int .u64)) (.o .s) x.f4)), (5, (.v .bool .s x.f5)), (6, (.v (.int .i64) .s x.f6)), (7, (.v (.int .i64) .s x.f7)), (8, (.v (.int .i64) .s x.f8))]
def out_ref21_Bytes_14 : Ex → List (Nat × Bool) | .ret => [(2, false), (3, false)] | .exit 4 => [(0, false), (4, false), (5, false), (6, false), (7, false)] | _ => []
noncomputable def fuel_ref21_Bytes_14 (x : X_ref21_Bytes_14) : Nat := fuel64
noncomputable def c_ref21_Bytes_14 : Code := match loopAt 14 (body Try.f17.body) with | some c => c | none => .skip
structure X_ref21_Bytes_9 where
  f0 : List (It1)
  f4 : List (Int)
  f5 : Bool
  f6 : Int
  f7 : Int

noncomputable def B_ref21_Bytes_9 {R : Type} (k_ret : (List (Int)) → Int → Option R) (k_exit_2 : (List (It1)) → (List (Int)) → Bool → Int → Option R) (rec : X_ref21_Bytes_9 → Option R) (x : X_ref21_Bytes_9) : Option R :=
  cond (inB x.f6 (List.length x.f0))
  (let v1 := List.getD x.f0 x.f6.toNat (([] : List (List (((Int) × (Int) × Unit) × ((Int) × (Int) × Unit) × Unit))), ())
  let v2 := ((List.length v1.1 : Nat) : Int)
  let v3 := decide (x.f7 < v2)
  cond v3
  (cond (inB x.f6 (List.length x.f0))
  (let v4 := List.getD x.f0 x.f6.toNat (([] : List (List (((Int) × (Int) × Unit) × ((Int) × (Int) × Unit) × Unit))), ())
  cond (inB x.f7 (List.length v4.1))
  (let v5 := List.getD v4.1 x.f7.toNat ([] : List (((Int) × (Int) × Unit) × ((Int) × (Int) × Unit) × Unit))
  let v6 := ((List.length v5 : Nat) : Int)
  let v7 := IntKind.u64.wrap v6
  let v8 := List.set (List.replicate 1 (0 : Int)) 0 v7
  cond (decide (List.length x.f4 + List.length v8 ≤ most))
  (let v9 := x.f4 ++ v8
  cond x.f5
  (loopN (B_ref21_Bytes_14 (fun w10 w11 =>
  k_ret w10 w11) (fun w12 w13 w14 w15 w16 =>
  let v17 := IntKind.i64.wrap (w16 + (1 : Int))
  rec ⟨w12, w13, w14, w15, v17⟩)) (fuel_ref21_Bytes_14 ⟨x.f0, v9, true, x.f6, x.f7, (0 : Int)⟩) ⟨x.f0, v9, true, x.f6, x.f7, (0 : Int)⟩)
  (cond (inB x.f6 (List.length x.f0))
  (let v18 := List.getD x.f0 x.f6.toNat (([] : List (List (((Int) × (Int) × Unit) × ((Int) × (Int) × Unit) × Unit))), ())
  cond (inB x.f7 (List.length v18.1))
  (let v19 := List.getD v18.1 x.f7.toNat ([] : List (((Int) × (Int) × Unit) × ((Int) × (Int) × Unit) × Unit))
  let v20 := ((List.length v19 : Nat) : Int)
  let v21 := decide (v20 > (64 : Int))
  loopN (B_ref21_Bytes_14 (fun w22 w23 =>
  k_ret w22 w23) (fun w24 w25 w26 w27 w28 =>
  let v29 := IntKind.i64.wrap (w28 + (1 : Int))
  rec ⟨w24, w25, w26, w27, v29⟩)) (fuel_ref21_Bytes_14 ⟨x.f0, v9, v21, x.f6, x.f7, (0 : Int)⟩) ⟨x.f0, v9, v21, x.f6, x.f7, (0 : Int)⟩) none) none)) none) none) none)
  (k_exit_2 x.f0 x.f4 x.f5 x.f6)) none
noncomputable def S_ref21_Bytes_9 (x : X_ref21_Bytes_9) : St := St.ofList [(0, (.v (.sl 89 (.pair (.sl 86 (.sl 85 Ty0)) .unit)) .s x.f0)), (4, (.v (.sl 75 (.int .u64)) (.o .s) x.f4)), (5, (.v .bool .s x.f5)), (6, (.v (.int .i64) .s x.f6)), (7, (.v (.int .i64) .s x.f7))]
def out_ref21_Bytes_9 : Ex → List (Nat × Bool) | .ret => [(2, false), (3, false)] | .exit 2 => [(0, false), (4, false), (5, false), (6, false)] | _ => []
noncomputable def fuel_ref21_Bytes_9 (x : X_ref21_Bytes_9) : Nat := fuel64
noncomputable def c_ref21_Bytes_9 : Code := match loopAt 9 (body Try.f17.body) with | some c => c | none => .skip
structure X_ref21_Bytes_4 where
  f0 : List (It1)
  f4 : List (Int)
  f5 : Bool
  f6 : Int

noncomputable def B_ref21_Bytes_4 {R : Type} (k_ret : (List (Int)) → Int → Option R) (k_exit_0 : (List (Int)) → Bool → Option R) (rec : X_ref21_Bytes_4 → Option R) (x : X_ref21_Bytes_4) : Option R :=
  let v1 := ((List.length x.f0 : Nat) : Int)
  let v2 := decide (x.f6 < v1)
  cond v2
  (cond (inB x.f6 (List.length x.f0))
  (let v3 := List.getD x.f0 x.f6.toNat (([] : List (List (((Int) × (Int) × Unit) × ((Int) × (Int) × Unit) × Unit))), ())
  let v4 := ((List.length v3.1 : Nat) : Int)
  let v5 := IntKind.u64.wrap v4
  let v6 := List.set (List.replicate 1 (0 : Int)) 0 v5
  cond (decide (List.length x.f4 + List.length v6 ≤ most))
  (let v7 := x.f4 ++ v6
  cond x.f5
  (loopN (B_ref21_Bytes_9 (fun w8 w9 =>
  k_ret w8 w9) (fun w10 w11 w12 w13 =>
  let v14 := IntKind.i64.wrap (w13 + (1 : Int))
  rec ⟨w10, w11, w12, v14⟩)) (fuel_ref21_Bytes_9 ⟨x.f0, v7, true, x.f6, (0 : Int)⟩) ⟨x.f0, v7, true, x.f6, (0 : Int)⟩)
  (cond (inB x.f6 (List.length x.f0))
  (let v15 := List.getD x.f0 x.f6.toNat (([] : List (List (((Int) × (Int) × Unit) × ((Int) × (Int) × Unit) × Unit))), ())
  let v16 := ((List.length v15.1 : Nat) : Int)
  let v17 := decide (v16 > (2000 : Int))
  loopN (B_ref21_Bytes_9 (fun w18 w19 =>
  k_ret w18 w19) (fun w20 w21 w22 w23 =>
  let v24 := IntKind.i64.wrap (w23 + (1 : Int))
  rec ⟨w20, w21, w22, v24⟩)) (fuel_ref21_Bytes_9 ⟨x.f0, v7, v17, x.f6, (0 : Int)⟩) ⟨x.f0, v7, v17, x.f6, (0 : Int)⟩) none)) none) none)
  (k_exit_0 x.f4 x.f5)
noncomputable def S_ref21_Bytes_4 (x : X_ref21_Bytes_4) : St := St.ofList [(0, (.v (.sl 89 (.pair (.sl 86 (.sl 85 Ty0)) .unit)) .s x.f0)), (4, (.v (.sl 75 (.int .u64)) (.o .s) x.f4)), (5, (.v .bool .s x.f5)), (6, (.v (.int .i64) .s x.f6))]
def out_ref21_Bytes_4 : Ex → List (Nat × Bool) | .ret => [(2, false), (3, false)] | .exit 0 => [(4, false), (5, false)] | _ => []
noncomputable def fuel_ref21_Bytes_4 (x : X_ref21_Bytes_4) : Nat := fuel64
noncomputable def c_ref21_Bytes_4 : Code := match loopAt 4 (body Try.f17.body) with | some c => c | none => .skip
structure X_ref21_Bytes_22 where
  f4 : List (Int)
  f5 : Bool
  f10 : List (Int)
  f11 : Int

noncomputable def B_ref21_Bytes_22 {R : Type} (k_exit_6 : Bool → (List (Int)) → Option R) (rec : X_ref21_Bytes_22 → Option R) (x : X_ref21_Bytes_22) : Option R :=
  let v1 := ((List.length x.f4 : Nat) : Int)
  let v2 := decide (x.f11 < v1)
  cond v2
  (cond (inB x.f11 (List.length x.f4))
  (let v3 := (List.getD x.f4 x.f11.toNat (0 : Int))
  p_ref01_PutU v3 fun r4 =>
  cond (decide (List.length x.f10 + List.length r4 ≤ most))
  (let v5 := x.f10 ++ r4
  let v6 := IntKind.i64.wrap (x.f11 + (1 : Int))
  rec ⟨x.f4, x.f5, v5, v6⟩) none) none)
  (k_exit_6 x.f5 x.f10)
noncomputable def S_ref21_Bytes_22 (x : X_ref21_Bytes_22) : St := St.ofList [(4, (.v (.sl 75 (.int .u64)) (.o .s) x.f4)), (5, (.v .bool .s x.f5)), (10, (.v (.sl 5 (.int .u8)) (.o .s) x.f10)), (11, (.v (.int .i64) .s x.f11))]
def out_ref21_Bytes_22 : Ex → List (Nat × Bool) | .exit 6 => [(5, false), (10, false)] | _ => []
noncomputable def fuel_ref21_Bytes_22 (x : X_ref21_Bytes_22) : Nat := fuel64
noncomputable def c_ref21_Bytes_22 : Code := match loopAt 22 (body Try.f17.body) with | some c => c | none => .skip
noncomputable def lp_ref21_Bytes : Loops := fun z i R st K => match z, i with
  | false, 14 => coerce [(0, false), (4, false), (5, false), (6, false), (7, false), (8, false)] st (fun st => mV (.sl 89 (.pair (.sl 86 (.sl 85 Ty0)) .unit)) .s (st 0) fun y0 => mV (.sl 75 (.int .u64)) (.o .s) (st 4) fun y4 => mV .bool .s (st 5) fun y5 => mV (.int .i64) .s (st 6) fun y6 => mV (.int .i64) .s (st 7) fun y7 => mV (.int .i64) .s (st 8) fun y8 => loopN (B_ref21_Bytes_14 (fun e2 e3 => K .ret (St.ofList [(2, (.v (.sl 5 (.int .u8)) (.o .s) e2)), (3, (.v (.int .i64) .s e3))])) (fun e0 e4 e5 e6 e7 => K (.exit 4) (St.ofList [(0, (.v (.sl 89 (.pair (.sl 86 (.sl 85 Ty0)) .unit)) .s e0)), (4, (.v (.sl 75 (.int .u64)) (.o .s) e4)), (5, (.v .bool .s e5)), (6, (.v (.int .i64) .s e6)), (7, (.v (.int .i64) .s e7))]))) (fuel_ref21_Bytes_14 ⟨y0, y4, y5, y6, y7, y8⟩) ⟨y0, y4, y5, y6, y7, y8⟩)
  | false, 9 => coerce [(0, false), (4, false), (5, false), (6, false), (7, false)] st (fun st => mV (.sl 89 (.pair (.sl 86 (.sl 85 Ty0)) .unit)) .s (st 0) fun y0 => mV (.sl 75 (.int .u64)) (.o .s) (st 4) fun y4 => mV .bool .s (st 5) fun y5 => mV (.int .i64) .s (st 6) fun y6 => mV (.int .i64) .s (st 7) fun y7 => loopN (B_ref21_Bytes_9 (fun e2 e3 => K .ret (St.ofList [(2, (.v (.sl 5 (.int .u8)) (.o .s) e2)), (3, (.v (.int .i64) .s e3))])) (fun e0 e4 e5 e6 => K (.exit 2) (St.ofList [(0, (.v (.sl 89 (.pair (.sl 86 (.sl 85 Ty0)) .unit)) .s e0)), (4, (.v (.sl 75 (.int .u64)) (.o .s) e4)), (5, (.v .bool .s e5)), (6, (.v (.int .i64) .s e6))]))) (fuel_ref21_Bytes_9 ⟨y0, y4, y5, y6, y7⟩) ⟨y0, y4, y5, y6, y7⟩)
  | false, 4 => coerce [(0, false), (4, false), (5, false), (6, false)] st (fun st => mV (.sl 89 (.pair (.sl 86 (.sl 85 Ty0)) .unit)) .s (st 0) fun y0 => mV (.sl 75 (.int .u64)) (.o .s) (st 4) fun y4 => mV .bool .s (st 5) fun y5 => mV (.int .i64) .s (st 6) fun y6 => loopN (B_ref21_Bytes_4 (fun e2 e3 => K .ret (St.ofList [(2, (.v (.sl 5 (.int .u8)) (.o .s) e2)), (3, (.v (.int .i64) .s e3))])) (fun e4 e5 => K (.exit 0) (St.ofList [(4, (.v (.sl 75 (.int .u64)) (.o .s) e4)), (5, (.v .bool .s e5))]))) (fuel_ref21_Bytes_4 ⟨y0, y4, y5, y6⟩) ⟨y0, y4, y5, y6⟩)
  | false, 22 => coerce [(4, false), (5, false), (10, false), (11, false)] st (fun st => mV (.sl 75 (.int .u64)) (.o .s) (st 4) fun y4 => mV .bool .s (st 5) fun y5 => mV (.sl 5 (.int .u8)) (.o .s) (st 10) fun y10 => mV (.int .i64) .s (st 11) fun y11 => loopN (B_ref21_Bytes_22 (fun e5 e10 => K (.exit 6) (St.ofList [(5, (.v .bool .s e5)), (10, (.v (.sl 5 (.int .u8)) (.o .s) e10))]))) (fuel_ref21_Bytes_22 ⟨y4, y5, y10, y11⟩) ⟨y4, y5, y10, y11⟩)
  | _, _ => none
theorem step_ref21_Bytes_14 (R : Type) (K : Ex → St → Option R) (rec : St → Option R) (x : X_ref21_Bytes_14) : evC env_ref21_Bytes lp_ref21_Bytes inl0 c_ref21_Bytes_14 (S_ref21_Bytes_14 x) (fun e st => match e with | .normal => coerce [(0, false), (4, false), (5, false), (6, false), (7, false), (8, false)] st rec | e => coerce (out_ref21_Bytes_14 e) st (K e)) = B_ref21_Bytes_14 (fun e2 e3 => K .ret (St.ofList [(2, (.v (.sl 5 (.int .u8)) (.o .s) e2)), (3, (.v (.int .i64) .s e3))])) (fun e0 e4 e5 e6 e7 => K (.exit 4) (St.ofList [(0, (.v (.sl 89 (.pair (.sl 86 (.sl 85 Ty0)) .unit)) .s e0)), (4, (.v (.sl 75 (.int .u64)) (.o .s) e4)), (5, (.v .bool .s e5)), (6, (.v (.int .i64) .s e6)), (7, (.v (.int .i64) .s e7))])) (fun x => rec (S_ref21_Bytes_14 x)) x := by kernel_rfl
theorem ok_ref21_Bytes_14 : LoopOk env_ref21_Bytes lp_ref21_Bytes inl0 c_ref21_Bytes_14 := by
  refine loopOk_of (hd := [(0, false), (4, false), (5, false), (6, false), (7, false), (8, false)]) (out := out_ref21_Bytes_14) (S := S_ref21_Bytes_14) (fun _ K => B_ref21_Bytes_14 (fun e2 e3 => K .ret (St.ofList [(2, (.v (.sl 5 (.int .u8)) (.o .s) e2)), (3, (.v (.int .i64) .s e3))])) (fun e0 e4 e5 e6 e7 => K (.exit 4) (St.ofList [(0, (.v (.sl 89 (.pair (.sl 86 (.sl 85 Ty0)) .unit)) .s e0)), (4, (.v (.sl 75 (.int .u64)) (.o .s) e4)), (5, (.v .bool .s e5)), (6, (.v (.int .i64) .s e6)), (7, (.v (.int .i64) .s e7))]))) fuel_ref21_Bytes_14 14 step_ref21_Bytes_14 (by kernel_rfl) (fun R K => fun st => mV (.sl 89 (.pair (.sl 86 (.sl 85 Ty0)) .unit)) .s (st 0) fun y0 => mV (.sl 75 (.int .u64)) (.o .s) (st 4) fun y4 => mV .bool .s (st 5) fun y5 => mV (.int .i64) .s (st 6) fun y6 => mV (.int .i64) .s (st 7) fun y7 => mV (.int .i64) .s (st 8) fun y8 => loopN (B_ref21_Bytes_14 (fun e2 e3 => K .ret (St.ofList [(2, (.v (.sl 5 (.int .u8)) (.o .s) e2)), (3, (.v (.int .i64) .s e3))])) (fun e0 e4 e5 e6 e7 => K (.exit 4) (St.ofList [(0, (.v (.sl 89 (.pair (.sl 86 (.sl 85 Ty0)) .unit)) .s e0)), (4, (.v (.sl 75 (.int .u64)) (.o .s) e4)), (5, (.v .bool .s e5)), (6, (.v (.int .i64) .s e6)), (7, (.v (.int .i64) .s e7))]))) (fuel_ref21_Bytes_14 ⟨y0, y4, y5, y6, y7, y8⟩) ⟨y0, y4, y5, y6, y7, y8⟩) (fun R st K => by kernel_rfl) ?_
  intro R K st r h
  obtain ⟨y0, hy0, h⟩ := mV_inv h
  obtain ⟨y4, hy4, h⟩ := mV_inv h
  obtain ⟨y5, hy5, h⟩ := mV_inv h
  obtain ⟨y6, hy6, h⟩ := mV_inv h
  obtain ⟨y7, hy7, h⟩ := mV_inv h
  obtain ⟨y8, hy8, h⟩ := mV_inv h
  exact ⟨⟨y0, y4, y5, y6, y7, y8⟩, only_of_list (ofList_cons hy0 (ofList_cons hy4 (ofList_cons hy5 (ofList_cons hy6 (ofList_cons hy7 (ofList_cons hy8 rfl)))))), h⟩
theorem step_ref21_Bytes_9 (R : Type) (K : Ex → St → Option R) (rec : St → Option R) (x : X_ref21_Bytes_9) : evC env_ref21_Bytes lp_ref21_Bytes inl0 c_ref21_Bytes_9 (S_ref21_Bytes_9 x) (fun e st => match e with | .normal => coerce [(0, false), (4, false), (5, false), (6, false), (7, false)] st rec | e => coerce (out_ref21_Bytes_9 e) st (K e)) = B_ref21_Bytes_9 (fun e2 e3 => K .ret (St.ofList [(2, (.v (.sl 5 (.int .u8)) (.o .s) e2)), (3, (.v (.int .i64) .s e3))])) (fun e0 e4 e5 e6 => K (.exit 2) (St.ofList [(0, (.v (.sl 89 (.pair (.sl 86 (.sl 85 Ty0)) .unit)) .s e0)), (4, (.v (.sl 75 (.int .u64)) (.o .s) e4)), (5, (.v .bool .s e5)), (6, (.v (.int .i64) .s e6))])) (fun x => rec (S_ref21_Bytes_9 x)) x := by kernel_rfl
theorem ok_ref21_Bytes_9 : LoopOk env_ref21_Bytes lp_ref21_Bytes inl0 c_ref21_Bytes_9 := by
  refine loopOk_of (hd := [(0, false), (4, false), (5, false), (6, false), (7, false)]) (out := out_ref21_Bytes_9) (S := S_ref21_Bytes_9) (fun _ K => B_ref21_Bytes_9 (fun e2 e3 => K .ret (St.ofList [(2, (.v (.sl 5 (.int .u8)) (.o .s) e2)), (3, (.v (.int .i64) .s e3))])) (fun e0 e4 e5 e6 => K (.exit 2) (St.ofList [(0, (.v (.sl 89 (.pair (.sl 86 (.sl 85 Ty0)) .unit)) .s e0)), (4, (.v (.sl 75 (.int .u64)) (.o .s) e4)), (5, (.v .bool .s e5)), (6, (.v (.int .i64) .s e6))]))) fuel_ref21_Bytes_9 9 step_ref21_Bytes_9 (by kernel_rfl) (fun R K => fun st => mV (.sl 89 (.pair (.sl 86 (.sl 85 Ty0)) .unit)) .s (st 0) fun y0 => mV (.sl 75 (.int .u64)) (.o .s) (st 4) fun y4 => mV .bool .s (st 5) fun y5 => mV (.int .i64) .s (st 6) fun y6 => mV (.int .i64) .s (st 7) fun y7 => loopN (B_ref21_Bytes_9 (fun e2 e3 => K .ret (St.ofList [(2, (.v (.sl 5 (.int .u8)) (.o .s) e2)), (3, (.v (.int .i64) .s e3))])) (fun e0 e4 e5 e6 => K (.exit 2) (St.ofList [(0, (.v (.sl 89 (.pair (.sl 86 (.sl 85 Ty0)) .unit)) .s e0)), (4, (.v (.sl 75 (.int .u64)) (.o .s) e4)), (5, (.v .bool .s e5)), (6, (.v (.int .i64) .s e6))]))) (fuel_ref21_Bytes_9 ⟨y0, y4, y5, y6, y7⟩) ⟨y0, y4, y5, y6, y7⟩) (fun R st K => by kernel_rfl) ?_
  intro R K st r h
  obtain ⟨y0, hy0, h⟩ := mV_inv h
  obtain ⟨y4, hy4, h⟩ := mV_inv h
  obtain ⟨y5, hy5, h⟩ := mV_inv h
  obtain ⟨y6, hy6, h⟩ := mV_inv h
  obtain ⟨y7, hy7, h⟩ := mV_inv h
  exact ⟨⟨y0, y4, y5, y6, y7⟩, only_of_list (ofList_cons hy0 (ofList_cons hy4 (ofList_cons hy5 (ofList_cons hy6 (ofList_cons hy7 rfl))))), h⟩
theorem step_ref21_Bytes_4 (R : Type) (K : Ex → St → Option R) (rec : St → Option R) (x : X_ref21_Bytes_4) : evC env_ref21_Bytes lp_ref21_Bytes inl0 c_ref21_Bytes_4 (S_ref21_Bytes_4 x) (fun e st => match e with | .normal => coerce [(0, false), (4, false), (5, false), (6, false)] st rec | e => coerce (out_ref21_Bytes_4 e) st (K e)) = B_ref21_Bytes_4 (fun e2 e3 => K .ret (St.ofList [(2, (.v (.sl 5 (.int .u8)) (.o .s) e2)), (3, (.v (.int .i64) .s e3))])) (fun e4 e5 => K (.exit 0) (St.ofList [(4, (.v (.sl 75 (.int .u64)) (.o .s) e4)), (5, (.v .bool .s e5))])) (fun x => rec (S_ref21_Bytes_4 x)) x := by kernel_rfl
theorem ok_ref21_Bytes_4 : LoopOk env_ref21_Bytes lp_ref21_Bytes inl0 c_ref21_Bytes_4 := by
  refine loopOk_of (hd := [(0, false), (4, false), (5, false), (6, false)]) (out := out_ref21_Bytes_4) (S := S_ref21_Bytes_4) (fun _ K => B_ref21_Bytes_4 (fun e2 e3 => K .ret (St.ofList [(2, (.v (.sl 5 (.int .u8)) (.o .s) e2)), (3, (.v (.int .i64) .s e3))])) (fun e4 e5 => K (.exit 0) (St.ofList [(4, (.v (.sl 75 (.int .u64)) (.o .s) e4)), (5, (.v .bool .s e5))]))) fuel_ref21_Bytes_4 4 step_ref21_Bytes_4 (by kernel_rfl) (fun R K => fun st => mV (.sl 89 (.pair (.sl 86 (.sl 85 Ty0)) .unit)) .s (st 0) fun y0 => mV (.sl 75 (.int .u64)) (.o .s) (st 4) fun y4 => mV .bool .s (st 5) fun y5 => mV (.int .i64) .s (st 6) fun y6 => loopN (B_ref21_Bytes_4 (fun e2 e3 => K .ret (St.ofList [(2, (.v (.sl 5 (.int .u8)) (.o .s) e2)), (3, (.v (.int .i64) .s e3))])) (fun e4 e5 => K (.exit 0) (St.ofList [(4, (.v (.sl 75 (.int .u64)) (.o .s) e4)), (5, (.v .bool .s e5))]))) (fuel_ref21_Bytes_4 ⟨y0, y4, y5, y6⟩) ⟨y0, y4, y5, y6⟩) (fun R st K => by kernel_rfl) ?_
  intro R K st r h
  obtain ⟨y0, hy0, h⟩ := mV_inv h
  obtain ⟨y4, hy4, h⟩ := mV_inv h
  obtain ⟨y5, hy5, h⟩ := mV_inv h
  obtain ⟨y6, hy6, h⟩ := mV_inv h
  exact ⟨⟨y0, y4, y5, y6⟩, only_of_list (ofList_cons hy0 (ofList_cons hy4 (ofList_cons hy5 (ofList_cons hy6 rfl)))), h⟩
theorem step_ref21_Bytes_22 (R : Type) (K : Ex → St → Option R) (rec : St → Option R) (x : X_ref21_Bytes_22) : evC env_ref21_Bytes lp_ref21_Bytes inl0 c_ref21_Bytes_22 (S_ref21_Bytes_22 x) (fun e st => match e with | .normal => coerce [(4, false), (5, false), (10, false), (11, false)] st rec | e => coerce (out_ref21_Bytes_22 e) st (K e)) = B_ref21_Bytes_22 (fun e5 e10 => K (.exit 6) (St.ofList [(5, (.v .bool .s e5)), (10, (.v (.sl 5 (.int .u8)) (.o .s) e10))])) (fun x => rec (S_ref21_Bytes_22 x)) x := by kernel_rfl
theorem ok_ref21_Bytes_22 : LoopOk env_ref21_Bytes lp_ref21_Bytes inl0 c_ref21_Bytes_22 := by
  refine loopOk_of (hd := [(4, false), (5, false), (10, false), (11, false)]) (out := out_ref21_Bytes_22) (S := S_ref21_Bytes_22) (fun _ K => B_ref21_Bytes_22 (fun e5 e10 => K (.exit 6) (St.ofList [(5, (.v .bool .s e5)), (10, (.v (.sl 5 (.int .u8)) (.o .s) e10))]))) fuel_ref21_Bytes_22 22 step_ref21_Bytes_22 (by kernel_rfl) (fun R K => fun st => mV (.sl 75 (.int .u64)) (.o .s) (st 4) fun y4 => mV .bool .s (st 5) fun y5 => mV (.sl 5 (.int .u8)) (.o .s) (st 10) fun y10 => mV (.int .i64) .s (st 11) fun y11 => loopN (B_ref21_Bytes_22 (fun e5 e10 => K (.exit 6) (St.ofList [(5, (.v .bool .s e5)), (10, (.v (.sl 5 (.int .u8)) (.o .s) e10))]))) (fuel_ref21_Bytes_22 ⟨y4, y5, y10, y11⟩) ⟨y4, y5, y10, y11⟩) (fun R st K => by kernel_rfl) ?_
  intro R K st r h
  obtain ⟨y4, hy4, h⟩ := mV_inv h
  obtain ⟨y5, hy5, h⟩ := mV_inv h
  obtain ⟨y10, hy10, h⟩ := mV_inv h
  obtain ⟨y11, hy11, h⟩ := mV_inv h
  exact ⟨⟨y4, y5, y10, y11⟩, only_of_list (ofList_cons hy4 (ofList_cons hy5 (ofList_cons hy10 (ofList_cons hy11 rfl)))), h⟩
theorem loops_ref21_Bytes : LoopsOk env_ref21_Bytes lp_ref21_Bytes inl0 (body Try.f17.body) := by
  refine loopsOk_of (fun c hc => ?_) (fun c hc => ?_)
  · rw [show loopsL (body Try.f17.body) = [c_ref21_Bytes_4, c_ref21_Bytes_9, c_ref21_Bytes_14, c_ref21_Bytes_22] by kernel_rfl] at hc
    simp only [List.mem_cons, List.not_mem_nil, or_false] at hc
    rcases hc with rfl | rfl | rfl | rfl
    · exact ok_ref21_Bytes_4
    · exact ok_ref21_Bytes_9
    · exact ok_ref21_Bytes_14
    · exact ok_ref21_Bytes_22
  · rw [show joinsL env_ref21_Bytes (body Try.f17.body) = [] by kernel_rfl] at hc; cases hc
noncomputable def p_ref21_Bytes {R : Type} (a0 : List (It1)) (K : (List (Int)) → Int → Option R) : Option R :=
  let v1 := ((List.length a0 : Nat) : Int)
  let v2 := IntKind.u64.wrap v1
  let v3 := List.set (List.replicate 1 (0 : Int)) 0 v2
  let v4 := ((List.length a0 : Nat) : Int)
  let v5 := decide (v4 > (64 : Int))
  loopN (B_ref21_Bytes_4 (fun w6 w7 =>
  K w6 w7) (fun w8 w9 =>
  loopN (B_ref21_Bytes_22 (fun w10 w11 =>
  cond w10
  (K ([] : List (Int)) (4 : Int))
  (let v12 := ((List.length w11 : Nat) : Int)
  let v13 := decide (v12 > (65536 : Int))
  cond v13
  (K ([] : List (Int)) (4 : Int))
  (K w11 (0 : Int))))) (fuel_ref21_Bytes_22 ⟨w8, w9, ([] : List (Int)), (0 : Int)⟩) ⟨w8, w9, ([] : List (Int)), (0 : Int)⟩)) (fuel_ref21_Bytes_4 ⟨a0, v3, v5, (0 : Int)⟩) ⟨a0, v3, v5, (0 : Int)⟩
noncomputable def cs_ref21_Bytes : CSpec := { ins := [(.val (.sl 89 (.pair (.sl 86 (.sl 85 Ty0)) .unit)) .s)], outs := [((.sl 5 (.int .u8)), (.o .s)), ((.int .i64), .s)], fn := fun (d : (List (It1)) × Unit) K _ => p_ref21_Bytes d.1 (fun r0 r1 => K ((r0, r1, ()) : (List (Int)) × Int × Unit) ((()) : Unit)) }
theorem h_ref21_Bytes : Holds Try.prog 17 cs_ref21_Bytes := by
  refine holds_of (env := env_ref21_Bytes) (inl := inl0) (fn := Try.f17) (code := body Try.f17.body) (rs := [(2, none), (3, none)]) (lp := lp_ref21_Bytes) mixed ⟨envTyOk.ty, envTyOk.eq⟩ gamOk_ref21_Bytes inl0_ok Try.func17 (by kernel_rfl) (by kernel_rfl) (by kernel_rfl) (by kernel_rfl) (by kernel_rfl) loops_ref21_Bytes (by kernel_rfl) ?_
  intro d R K Kp res h
  have : evC env_ref21_Bytes lp_ref21_Bytes inl0 (body Try.f17.body) (St.start cs_ref21_Bytes.ins d) (retK env_ref21_Bytes cs_ref21_Bytes.ins cs_ref21_Bytes.outs [(2, none), (3, none)] cs_ref21_Bytes.pan K Kp) = cs_ref21_Bytes.fn d K Kp := by kernel_rfl
  rw [this]; exact h
-- f9 trammel/trammellaw21.CertModule
noncomputable def gam_law21_CertModule : FuncId → List FuncId → Option CSpec
  | 14, [] => some cs_law21_awake
  | 26, [] => some cs_ref08_Short
  | 15, [] => some cs_ref21_Short
  | 27, [] => some cs_cert_Strip
  | 28, [] => some cs_cert_Of
  | 29, [] => some cs_load_Same
  | 31, [] => some cs_cert_With
  | 17, [] => some cs_ref21_Bytes
  | 20, [] => some cs_ref21_Same
  | 30, [] => some cs_ref21_Read
  | _, _ => none
noncomputable def fz_law21_CertModule : Nat → Bool
  | 62 => true
  | _ => false
noncomputable def fs_law21_CertModule : Nat → Bool
  | 5 => true
  | 15 => true
  | _ => false
noncomputable def lv_law21_CertModule : Nat → Option (List Nat)
  | 0 => some [0, 1]
  | 1 => some [1, 2]
  | 2 => some []
  | 3 => some [1, 2]
  | 4 => some []
  | 5 => some [1, 2]
  | 6 => some [1, 2, 5]
  | 7 => some [1, 2, 5, 7]
  | 8 => some [1, 2, 5, 7, 8]
  | 9 => some [1, 2, 5, 7, 8, 9]
  | 10 => some [1, 2, 5, 7, 8, 9, 10]
  | 11 => some [1, 2, 5, 7, 8, 9, 10]
  | 12 => some [1, 2, 5, 7, 8, 9, 10]
  | 13 => some [1, 2, 5, 7, 8, 9, 10]
  | 14 => some [1, 2, 5, 7, 8, 9, 10]
  | 15 => some [1, 2, 5, 7, 8, 10]
  | 16 => some [1, 2, 5, 7, 8, 9]
  | 17 => some [1, 2, 5, 7, 8, 9, 11]
  | 18 => some [1, 2, 5, 7, 8, 9, 11]
  | 19 => some []
  | 20 => some [1, 2, 8, 9, 11]
  | 21 => some [1, 2, 7, 8, 9, 11, 12]
  | 22 => some [1, 2, 7, 8, 11, 12]
  | 23 => some []
  | 24 => some [1, 2, 7, 8, 9, 11, 12]
  | 25 => some [1, 2, 7, 8, 11, 12, 13, 14]
  | 26 => some []
  | 27 => some [1, 2, 8, 11]
  | 28 => some [1, 8, 11, 15, 16]
  | 29 => some [1, 8, 11, 15, 16, 17, 18]
  | 30 => some [15, 16, 18]
  | 31 => some [1, 8, 11, 15, 16, 17]
  | 32 => some [1, 11, 15, 16]
  | 33 => some [1, 7, 11, 12, 15, 16]
  | _ => none
noncomputable def env_law21_CertModule : Env := { ty := envTy, eq := envEq, gam := gam_law21_CertModule, n := Try.f9.ntmps, fz := fz_law21_CertModule, fs := fs_law21_CertModule, lv := lv_law21_CertModule }
theorem gamOk_law21_CertModule : EnvFn Try.prog env_law21_CertModule := by
  intro f gs c h
  unfold env_law21_CertModule gam_law21_CertModule at h
  simp only at h
  split at h <;> first | (cases h; done) | (cases h; exact h_law21_awake) | (cases h; exact h_ref08_Short) | (cases h; exact h_ref21_Short) | (cases h; exact h_cert_Strip) | (cases h; exact h_cert_Of) | (cases h; exact h_load_Same) | (cases h; exact h_cert_With) | (cases h; exact h_ref21_Bytes) | (cases h; exact h_ref21_Same) | (cases h; exact h_ref21_Read)
structure X_law21_CertModule_10 where
  f1 : List (It1)
  f2 : It10
  f5 : It10
  f7 : Bool
  f8 : List ((List UInt8) × (List (Int)) × Unit)
  f9 : Int
  f10 : Int

noncomputable def B_law21_CertModule_10 {R : Type} (k_exit_0 : (List (It1)) → It10 → It10 → Bool → (List ((List UInt8) × (List (Int)) × Unit)) → Int → Option R) (rec : X_law21_CertModule_10 → Option R) (x : X_law21_CertModule_10) : Option R :=
  let v1 := ((List.length x.f2.2.2.2.2.2.2.2.2.2.2.2.1 : Nat) : Int)
  let v2 := decide (x.f10 < v1)
  cond v2
  (cond (inB x.f10 (List.length x.f2.2.2.2.2.2.2.2.2.2.2.2.1))
  (let v3 := List.getD x.f2.2.2.2.2.2.2.2.2.2.2.2.1 x.f10.toNat (([] : List UInt8), (([] : List (Int)), ()))
  let v4 := !(v3.1 == ([116, 114, 97, 109, 109, 101, 108, 46, 99, 108, 97, 105, 109, 115] : List UInt8))
  cond v4
  (cond (inB x.f10 (List.length x.f2.2.2.2.2.2.2.2.2.2.2.2.1))
  (let v5 := List.getD x.f2.2.2.2.2.2.2.2.2.2.2.2.1 x.f10.toNat (([] : List UInt8), (([] : List (Int)), ()))
  let v6 := List.set (List.replicate 1 (([] : List UInt8), (([] : List (Int)), ()))) 0 v5
  cond (decide (List.length x.f8 + List.length v6 ≤ most))
  (let v7 := x.f8 ++ v6
  let v8 := IntKind.i64.wrap (x.f10 + (1 : Int))
  rec ⟨x.f1, x.f2, x.f5, x.f7, v7, x.f9, v8⟩) none) none)
  (let v9 := decide (x.f9 < (0 : Int))
  cond v9
  (let v10 := IntKind.i64.wrap (x.f10 + (1 : Int))
  rec ⟨x.f1, x.f2, x.f5, x.f7, x.f8, x.f10, v10⟩)
  (let v11 := IntKind.i64.wrap (x.f10 + (1 : Int))
  rec ⟨x.f1, x.f2, x.f5, x.f7, x.f8, x.f9, v11⟩))) none)
  (k_exit_0 x.f1 x.f2 x.f5 x.f7 x.f8 x.f9)
noncomputable def S_law21_CertModule_10 (x : X_law21_CertModule_10) : St := St.ofList [(1, (.v (.sl 89 (.pair (.sl 86 (.sl 85 Ty0)) .unit)) .s x.f1)), (2, (.v (.ptr 62 (.pair Ty11 Ty23)) (.o .s) (some x.f2))), (5, (.v (.ptr 62 (.pair Ty11 Ty23)) .s (some x.f5))), (7, (.v .bool .s x.f7)), (8, (.v (.sl 44 (.pair .str (.pair (.sl 5 (.int .u8)) .unit))) (.o .s) x.f8)), (9, (.v (.int .i64) .s x.f9)), (10, (.v (.int .i64) .s x.f10))]
def out_law21_CertModule_10 : Ex → List (Nat × Bool) | .exit 0 => [(1, false), (2, false), (5, false), (7, false), (8, false), (9, false)] | _ => []
noncomputable def fuel_law21_CertModule_10 (x : X_law21_CertModule_10) : Nat := fuel64
noncomputable def c_law21_CertModule_10 : Code := match loopAt 10 (body Try.f9.body) with | some c => c | none => .skip
noncomputable def lp_law21_CertModule : Loops := fun z i R st K => match z, i with
  | false, 10 => coerce [(1, false), (2, false), (5, false), (7, false), (8, false), (9, false), (10, false)] st (fun st => mV (.sl 89 (.pair (.sl 86 (.sl 85 Ty0)) .unit)) .s (st 1) fun y1 => mP 62 (.pair Ty11 Ty23) (.o .s) (st 2) fun y2 => mP 62 (.pair Ty11 Ty23) .s (st 5) fun y5 => mV .bool .s (st 7) fun y7 => mV (.sl 44 (.pair .str (.pair (.sl 5 (.int .u8)) .unit))) (.o .s) (st 8) fun y8 => mV (.int .i64) .s (st 9) fun y9 => mV (.int .i64) .s (st 10) fun y10 => loopN (B_law21_CertModule_10 (fun e1 e2 e5 e7 e8 e9 => K (.exit 0) (St.ofList [(1, (.v (.sl 89 (.pair (.sl 86 (.sl 85 Ty0)) .unit)) .s e1)), (2, (.v (.ptr 62 (.pair Ty11 Ty23)) (.o .s) (some e2))), (5, (.v (.ptr 62 (.pair Ty11 Ty23)) .s (some e5))), (7, (.v .bool .s e7)), (8, (.v (.sl 44 (.pair .str (.pair (.sl 5 (.int .u8)) .unit))) (.o .s) e8)), (9, (.v (.int .i64) .s e9))]))) (fuel_law21_CertModule_10 ⟨y1, y2, y5, y7, y8, y9, y10⟩) ⟨y1, y2, y5, y7, y8, y9, y10⟩)
  | _, _ => none
theorem step_law21_CertModule_10 (R : Type) (K : Ex → St → Option R) (rec : St → Option R) (x : X_law21_CertModule_10) : evC env_law21_CertModule lp_law21_CertModule inl0 c_law21_CertModule_10 (S_law21_CertModule_10 x) (fun e st => match e with | .normal => coerce [(1, false), (2, false), (5, false), (7, false), (8, false), (9, false), (10, false)] st rec | e => coerce (out_law21_CertModule_10 e) st (K e)) = B_law21_CertModule_10 (fun e1 e2 e5 e7 e8 e9 => K (.exit 0) (St.ofList [(1, (.v (.sl 89 (.pair (.sl 86 (.sl 85 Ty0)) .unit)) .s e1)), (2, (.v (.ptr 62 (.pair Ty11 Ty23)) (.o .s) (some e2))), (5, (.v (.ptr 62 (.pair Ty11 Ty23)) .s (some e5))), (7, (.v .bool .s e7)), (8, (.v (.sl 44 (.pair .str (.pair (.sl 5 (.int .u8)) .unit))) (.o .s) e8)), (9, (.v (.int .i64) .s e9))])) (fun x => rec (S_law21_CertModule_10 x)) x := by kernel_rfl
theorem ok_law21_CertModule_10 : LoopOk env_law21_CertModule lp_law21_CertModule inl0 c_law21_CertModule_10 := by
  refine loopOk_of (hd := [(1, false), (2, false), (5, false), (7, false), (8, false), (9, false), (10, false)]) (out := out_law21_CertModule_10) (S := S_law21_CertModule_10) (fun _ K => B_law21_CertModule_10 (fun e1 e2 e5 e7 e8 e9 => K (.exit 0) (St.ofList [(1, (.v (.sl 89 (.pair (.sl 86 (.sl 85 Ty0)) .unit)) .s e1)), (2, (.v (.ptr 62 (.pair Ty11 Ty23)) (.o .s) (some e2))), (5, (.v (.ptr 62 (.pair Ty11 Ty23)) .s (some e5))), (7, (.v .bool .s e7)), (8, (.v (.sl 44 (.pair .str (.pair (.sl 5 (.int .u8)) .unit))) (.o .s) e8)), (9, (.v (.int .i64) .s e9))]))) fuel_law21_CertModule_10 10 step_law21_CertModule_10 (by kernel_rfl) (fun R K => fun st => mV (.sl 89 (.pair (.sl 86 (.sl 85 Ty0)) .unit)) .s (st 1) fun y1 => mP 62 (.pair Ty11 Ty23) (.o .s) (st 2) fun y2 => mP 62 (.pair Ty11 Ty23) .s (st 5) fun y5 => mV .bool .s (st 7) fun y7 => mV (.sl 44 (.pair .str (.pair (.sl 5 (.int .u8)) .unit))) (.o .s) (st 8) fun y8 => mV (.int .i64) .s (st 9) fun y9 => mV (.int .i64) .s (st 10) fun y10 => loopN (B_law21_CertModule_10 (fun e1 e2 e5 e7 e8 e9 => K (.exit 0) (St.ofList [(1, (.v (.sl 89 (.pair (.sl 86 (.sl 85 Ty0)) .unit)) .s e1)), (2, (.v (.ptr 62 (.pair Ty11 Ty23)) (.o .s) (some e2))), (5, (.v (.ptr 62 (.pair Ty11 Ty23)) .s (some e5))), (7, (.v .bool .s e7)), (8, (.v (.sl 44 (.pair .str (.pair (.sl 5 (.int .u8)) .unit))) (.o .s) e8)), (9, (.v (.int .i64) .s e9))]))) (fuel_law21_CertModule_10 ⟨y1, y2, y5, y7, y8, y9, y10⟩) ⟨y1, y2, y5, y7, y8, y9, y10⟩) (fun R st K => by kernel_rfl) ?_
  intro R K st r h
  obtain ⟨y1, hy1, h⟩ := mV_inv h
  obtain ⟨y2, hy2, h⟩ := mP_inv h
  obtain ⟨y5, hy5, h⟩ := mP_inv h
  obtain ⟨y7, hy7, h⟩ := mV_inv h
  obtain ⟨y8, hy8, h⟩ := mV_inv h
  obtain ⟨y9, hy9, h⟩ := mV_inv h
  obtain ⟨y10, hy10, h⟩ := mV_inv h
  exact ⟨⟨y1, y2, y5, y7, y8, y9, y10⟩, only_of_list (ofList_cons hy1 (ofList_cons hy2 (ofList_cons hy5 (ofList_cons hy7 (ofList_cons hy8 (ofList_cons hy9 (ofList_cons hy10 rfl))))))), h⟩
theorem loops_law21_CertModule : LoopsOk env_law21_CertModule lp_law21_CertModule inl0 (body Try.f9.body) := by
  refine loopsOk_of (fun c hc => ?_) (fun c hc => ?_)
  · rw [show loopsL (body Try.f9.body) = [c_law21_CertModule_10] by kernel_rfl] at hc
    simp only [List.mem_cons, List.not_mem_nil, or_false] at hc
    rcases hc with rfl
    · exact ok_law21_CertModule_10
  · rw [show joinsL env_law21_CertModule (body Try.f9.body) = [] by kernel_rfl] at hc; cases hc
noncomputable def p_law21_CertModule {R : Type} (a0 : It10) (a1 : List (It1)) (K : Bool → Option R) : Option R :=
  p_law21_awake fun r1 =>
  let v2 := !r1
  cond v2
  (K false)
  (p_ref08_Short a0 fun r3 =>
  let v4 := !r3
  cond v4
  (K true)
  (p_ref21_Short a1 fun r5 =>
  let v6 := !r5
  cond v6
  (K true)
  (p_cert_Strip a0 fun r7 =>
  p_cert_Of r7 fun r8 r9 =>
  loopN (B_law21_CertModule_10 (fun w10 w11 w12 w13 w14 w15 =>
  cond w13
  (K false)
  (p_load_Same w12 (w11.1, (w11.2.1, (w11.2.2.1, (w11.2.2.2.1, (w11.2.2.2.2.1, (w11.2.2.2.2.2.1, (w11.2.2.2.2.2.2.1, (w11.2.2.2.2.2.2.2.1, (w11.2.2.2.2.2.2.2.2.1, (w11.2.2.2.2.2.2.2.2.2.1, (w11.2.2.2.2.2.2.2.2.2.2.1, (w14, w11.2.2.2.2.2.2.2.2.2.2.2.2)))))))))))) fun r16 =>
  let v17 := !r16
  cond v17
  (K false)
  (p_cert_Of w11 fun r18 r19 =>
  let v20 := decide (w15 < (0 : Int))
  cond v20
  (cond r19
  (K false)
  (let v21 := ((List.length r18 : Nat) : Int)
  let v22 := v21 != (0 : Int)
  cond v22
  (K false)
  (p_cert_With w11 w10 fun r23 r24 =>
  p_ref21_Bytes w10 fun r25 r26 =>
  let v27 := r26 != (0 : Int)
  cond v27
  (let v28 := r24 == r26
  cond v28
  (p_load_Same r23 (([] : List ((List (Int)) × (List (Int)) × Unit)), (([] : List ((List UInt8) × It3)), (([] : List ((Int) × It4)), (([] : List ((Int) × (Bool) × (Int) × Unit)), (([] : List ((Int) × (Bool) × (Int) × Unit)), (([] : List ((Int) × It5)), (([] : List ((List UInt8) × (Int) × (Int) × Unit)), (([] : List (Int)), (([] : List ((Int) × It6)), (([] : List (Int)), (([] : List ((Int) × It6)), (([] : List ((List UInt8) × (List (Int)) × Unit)), ())))))))))))) fun r29 =>
  K r29)
  (K false))
  (let v30 := List.replicate 0 (([] : List UInt8), (([] : List (Int)), ()))
  cond (decide (List.length v30 + List.length w14 ≤ most))
  (let v31 := v30 ++ w14
  let v32 := List.set (List.replicate 1 (([] : List UInt8), (([] : List (Int)), ()))) 0 (([116, 114, 97, 109, 109, 101, 108, 46, 99, 108, 97, 105, 109, 115] : List UInt8), (r25, ()))
  cond (decide (List.length v31 + List.length v32 ≤ most))
  (let v33 := v31 ++ v32
  p_cert_Of r23 fun r34 r35 =>
  let v36 := r24 == (0 : Int)
  cond v36
  (p_load_Same r23 (w11.1, (w11.2.1, (w11.2.2.1, (w11.2.2.2.1, (w11.2.2.2.2.1, (w11.2.2.2.2.2.1, (w11.2.2.2.2.2.2.1, (w11.2.2.2.2.2.2.2.1, (w11.2.2.2.2.2.2.2.2.1, (w11.2.2.2.2.2.2.2.2.2.1, (w11.2.2.2.2.2.2.2.2.2.2.1, (v33, w11.2.2.2.2.2.2.2.2.2.2.2.2)))))))))))) fun r37 =>
  cond r37
  (cond r35
  (p_ref21_Same r34 w10 fun r38 =>
  K r38)
  (K false))
  (K false))
  (K false)) none) none))))
  (cond (inB w15 (List.length w11.2.2.2.2.2.2.2.2.2.2.2.1))
  (let v39 := List.getD w11.2.2.2.2.2.2.2.2.2.2.2.1 w15.toNat (([] : List UInt8), (([] : List (Int)), ()))
  p_ref21_Read v39.2.1 fun r40 r41 =>
  let v42 := r41 == (0 : Int)
  let v43 := !(r19 == v42)
  cond v43
  (K false)
  (p_ref21_Same r18 r40 fun r44 =>
  let v45 := !r44
  cond v45
  (K false)
  (p_cert_With w11 w10 fun r46 r47 =>
  p_ref21_Bytes w10 fun r48 r49 =>
  let v50 := r49 != (0 : Int)
  cond v50
  (let v51 := r47 == r49
  cond v51
  (p_load_Same r46 (([] : List ((List (Int)) × (List (Int)) × Unit)), (([] : List ((List UInt8) × It3)), (([] : List ((Int) × It4)), (([] : List ((Int) × (Bool) × (Int) × Unit)), (([] : List ((Int) × (Bool) × (Int) × Unit)), (([] : List ((Int) × It5)), (([] : List ((List UInt8) × (Int) × (Int) × Unit)), (([] : List (Int)), (([] : List ((Int) × It6)), (([] : List (Int)), (([] : List ((Int) × It6)), (([] : List ((List UInt8) × (List (Int)) × Unit)), ())))))))))))) fun r52 =>
  K r52)
  (K false))
  (let v53 := List.replicate 0 (([] : List UInt8), (([] : List (Int)), ()))
  cond (decide (List.length v53 + List.length w14 ≤ most))
  (let v54 := v53 ++ w14
  let v55 := List.set (List.replicate 1 (([] : List UInt8), (([] : List (Int)), ()))) 0 (([116, 114, 97, 109, 109, 101, 108, 46, 99, 108, 97, 105, 109, 115] : List UInt8), (r48, ()))
  cond (decide (List.length v54 + List.length v55 ≤ most))
  (let v56 := v54 ++ v55
  p_cert_Of r46 fun r57 r58 =>
  let v59 := r47 == (0 : Int)
  cond v59
  (p_load_Same r46 (w11.1, (w11.2.1, (w11.2.2.1, (w11.2.2.2.1, (w11.2.2.2.2.1, (w11.2.2.2.2.2.1, (w11.2.2.2.2.2.2.1, (w11.2.2.2.2.2.2.2.1, (w11.2.2.2.2.2.2.2.2.1, (w11.2.2.2.2.2.2.2.2.2.1, (w11.2.2.2.2.2.2.2.2.2.2.1, (v56, w11.2.2.2.2.2.2.2.2.2.2.2.2)))))))))))) fun r60 =>
  cond r60
  (cond r58
  (p_ref21_Same r57 w10 fun r61 =>
  K r61)
  (K false))
  (K false))
  (K false)) none) none)))) none))))) (fuel_law21_CertModule_10 ⟨a1, a0, r7, r9, ([] : List ((List UInt8) × (List (Int)) × Unit)), (-1 : Int), (0 : Int)⟩) ⟨a1, a0, r7, r9, ([] : List ((List UInt8) × (List (Int)) × Unit)), (-1 : Int), (0 : Int)⟩)))
noncomputable def cs_law21_CertModule : CSpec := { ins := [(.val (.pair Ty11 Ty23) .s), (.val (.sl 89 (.pair (.sl 86 (.sl 85 Ty0)) .unit)) .s)], outs := [(.bool, .s)], fn := fun (d : It10 × (List (It1)) × Unit) K _ => p_law21_CertModule d.1 d.2.1 (fun r0 => K ((r0, ()) : Bool × Unit) ((()) : Unit)) }
theorem h_law21_CertModule : Holds Try.prog 9 cs_law21_CertModule := by
  refine holds_of (env := env_law21_CertModule) (inl := inl0) (fn := Try.f9) (code := body Try.f9.body) (rs := [(4, none)]) (lp := lp_law21_CertModule) mixed ⟨envTyOk.ty, envTyOk.eq⟩ gamOk_law21_CertModule inl0_ok Try.func9 (by kernel_rfl) (by kernel_rfl) (by kernel_rfl) (by kernel_rfl) (by kernel_rfl) loops_law21_CertModule (by kernel_rfl) ?_
  intro d R K Kp res h
  have : evC env_law21_CertModule lp_law21_CertModule inl0 (body Try.f9.body) (St.start cs_law21_CertModule.ins d) (retK env_law21_CertModule cs_law21_CertModule.ins cs_law21_CertModule.outs [(4, none)] cs_law21_CertModule.pan K Kp) = cs_law21_CertModule.fn d K Kp := by kernel_rfl
  rw [this]; exact h
end Go.Trm.G1
