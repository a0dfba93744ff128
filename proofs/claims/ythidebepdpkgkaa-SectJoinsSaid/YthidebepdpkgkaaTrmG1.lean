import Derived.Test.YthidebepdpkgkaaTrmHand
import Derived.Test.YthidebepdpkgkaaProg
import Derived.KernelRfl
set_option linter.unusedVariables false
set_option linter.unusedSimpArgs false
namespace Go.Trm.G1
open Go.Proofs
set_option maxRecDepth 100000
noncomputable def envTy : TypeId → Option Ty
  | 2 => some (.int .i64)
  | 3 => some (.int .i64)
  | 4 => some .bool
  | 5 => some (.int .u8)
  | 6 => some (.int .u8)
  | 7 => some (.pair (.int .i64) (.pair (.int .i64) (.pair .bool (.pair (.int .u8) .unit))))
  | 8 => some (.pair (.int .i64) (.pair (.int .i64) (.pair .bool (.pair (.int .u8) .unit))))
  | 9 => some .str
  | 10 => some .str
  | 11 => some .str
  | 12 => some (.int .u64)
  | 13 => some (.pair .str (.pair (.int .u64) .unit))
  | 14 => some (.pair .str (.pair (.int .u64) .unit))
  | 21 => some (.int .i32)
  | 25 => some (.sl 5 (.int .u8))
  | 26 => some (.sl 39 (.pair (.int .i64) (.pair (.sl 5 (.int .u8)) .unit)))
  | 27 => some (.int .i64)
  | 30 => some (.sl 38 (.pair (.int .i64) (.pair (.sl 5 (.int .u8)) .unit)))
  | 37 => some (.pair (.int .i64) (.pair (.sl 5 (.int .u8)) .unit))
  | 38 => some (.pair (.int .i64) (.pair (.sl 5 (.int .u8)) .unit))
  | 39 => some (.pair (.int .i64) (.pair (.sl 5 (.int .u8)) .unit))
  | 58 => some (.arr 5 (.int .i64))
  | 61 => some (.pair (.int .i64) .unit)
  | 62 => some (.pair (.int .i64) .unit)
  | 64 => some (.int .u64)
  | 73 => some (.ptr 62 (.pair (.int .i64) .unit))
  | 77 => some (.int .u64)
  | 78 => some (.sl 4 .bool)
  | 81 => some (.sl 25 (.sl 5 (.int .u8)))
  | 84 => some (.sl 3 (.int .i64))
  | 92 => some (.int .u32)
  | 93 => some (.int .u8)
  | 94 => some (.int .u8)
  | 96 => some (.ptr 5 (.int .u8))
  | 97 => some (.int .i32)
  | 98 => some (.int .i32)
  | _ => none
noncomputable def envOf (g : FuncId → Option CSpec) (n : Nat) (fz : Nat → Bool) (lv : Nat → Option (List Nat)) : Env := ⟨envTy, g, n, fz, lv⟩
theorem envTyOk (g : FuncId → Option CSpec) (n : Nat) (fz : Nat → Bool) (lv : Nat → Option (List Nat)) : EnvTy Try.prog (envOf g n fz lv) := by
  intro T t h
  unfold envOf envTy at h
  simp only at h
  split at h <;> first | (cases h; done) | (simp only [Option.some.injEq] at h; subst h; kernel_rfl)
theorem mixed : Try.prog.follows .mixedOrders = true := by kernel_rfl
noncomputable def body (o : Option Code) : Code := match o with | some c => c | none => .skip
noncomputable def lp0 : Loops := fun _ _ _ _ => none
noncomputable def loopAt (id : Nat) : Code → Option Code
  | .loop c => match firstId c with
    | some i => match Nat.beq i id with
      | true => some c
      | false => loopAt id c
    | none => loopAt id c
  | .seq a b => match loopAt id a with
    | some c => some c
    | none => loopAt id b
  | .cond _ a b => match loopAt id a with
    | some c => some c
    | none => loopAt id b
  | .block _ c => loopAt id c
  | .scope c => loopAt id c
  | _ => none

-- f45 trammel/leb.most
noncomputable def fz_leb_most : Nat → Bool
  | _ => false
noncomputable def lv_leb_most : Nat → Option (List Nat)
  | _ => none
noncomputable def gam_leb_most : FuncId → Option CSpec
  | _ => none
theorem gamOk_leb_most : EnvFn Try.prog (envOf gam_leb_most Try.f45.ntmps fz_leb_most lv_leb_most) := by
  intro f c h
  unfold envOf gam_leb_most at h
  simp only at h
  cases h
noncomputable def p_leb_most {R : Type} (a0 : Int) (K : Int → Option R) : Option R :=
  let v1 := IntKind.i64.wrap (a0 + (6 : Int))
  cond ((7 : Int) != 0)
  (let v2 := IntKind.i64.wrap (Int.tdiv v1 (7 : Int))
  K v2) none
noncomputable def cs_leb_most : CSpec := { ins := [(.val (.int .i64) .s)], outs := [((.int .i64), .s)], fn := fun (d : Int × Unit) K => p_leb_most d.1 fun r0 => K ((r0, ()) : Int × Unit) ((()) : Unit) }
theorem h_leb_most : Holds Try.prog 45 cs_leb_most := by
  refine holds_of (env := envOf gam_leb_most Try.f45.ntmps fz_leb_most lv_leb_most) (fn := Try.f45) (code := body Try.f45.body) (rs := [(2, none)]) (lp := lp0) mixed (envTyOk _ _ _ _) gamOk_leb_most Try.func45 (by kernel_rfl) (by kernel_rfl) (by kernel_rfl) (by kernel_rfl) (by kernel_rfl) (loopsOk_none (by kernel_rfl)) (by kernel_rfl) ?_
  intro d R K res h
  have : evC (envOf gam_leb_most Try.f45.ntmps fz_leb_most lv_leb_most) lp0 (body Try.f45.body) (St.start cs_leb_most.ins d) (retK (envOf gam_leb_most Try.f45.ntmps fz_leb_most lv_leb_most) cs_leb_most.ins cs_leb_most.outs [(2, none)] K) = cs_leb_most.fn d K := by kernel_rfl
  rw [this]; exact h
-- f40 trammel/leb.raw
noncomputable def fz_leb_raw : Nat → Bool
  | _ => false
noncomputable def lv_leb_raw : Nat → Option (List Nat)
  | _ => none
noncomputable def gam_leb_raw : FuncId → Option CSpec
  | 45 => some cs_leb_most
  | _ => none
theorem gamOk_leb_raw : EnvFn Try.prog (envOf gam_leb_raw Try.f40.ntmps fz_leb_raw lv_leb_raw) := by
  intro f c h
  unfold envOf gam_leb_raw at h
  simp only at h
  split at h <;> first | (cases h; done) | (cases h; exact h_leb_most)
structure X_leb_raw_5 where
  f1 : Int
  f8 : Int
  f17 : List (Int)
  f18 : Int
  f19 : Int

noncomputable def B_leb_raw_5 {R : Type} (k_ret : Int → Int → Int → Int → Option R) (k_exit_0 : Option R) (rec : X_leb_raw_5 → Option R) (x : X_leb_raw_5) : Option R :=
  let v1 := decide (x.f19 < x.f18)
  cond v1
  (cond (inB x.f19 (List.length x.f17))
  (let v2 := List.getD x.f17 x.f19.toNat (0 : Int)
  let v3 := IntKind.u8.wrap ((BitVec.ofInt IntKind.u8.bits v2 &&& BitVec.ofInt IntKind.u8.bits (127 : Int)).toNat)
  let v4 := IntKind.u64.wrap v3
  let v5 := IntKind.i64.wrap ((7 : Int) * x.f19)
  let v6 := IntKind.u64.wrap v5
  cond (decide (0 ≤ v6))
  (let v7 := shlI .u64 v4 v6
  let v8 := IntKind.u64.wrap ((BitVec.ofInt IntKind.u64.bits x.f8 ||| BitVec.ofInt IntKind.u64.bits v7).toNat)
  let v9 := decide (v2 < (128 : Int))
  cond v9
  (let v10 := IntKind.i64.wrap (x.f19 + (1 : Int))
  k_ret v8 v2 v10 (0 : Int))
  (let v11 := IntKind.i64.wrap (x.f19 + (1 : Int))
  p_leb_most x.f1 fun r12 =>
  let v13 := v11 == r12
  cond v13
  (k_ret (0 : Int) (0 : Int) (0 : Int) (2 : Int))
  (let v14 := IntKind.i64.wrap (x.f19 + (1 : Int))
  rec ⟨x.f1, v8, x.f17, x.f18, v14⟩))) none) none)
  (k_exit_0)
noncomputable def S_leb_raw_5 (x : X_leb_raw_5) : St := St.ofList [(1, (.v (.int .i64) .s x.f1)), (8, (.v (.int .u64) .s x.f8)), (17, (.v (.sl 5 (.int .u8)) .s x.f17)), (18, (.v (.int .i64) .s x.f18)), (19, (.v (.int .i64) .s x.f19))]
def out_leb_raw_5 : Ex → List Nat | .ret => [4, 5, 6, 7] | (.exit 0) => [] | _ => []
noncomputable def fuel_leb_raw_5 (x : X_leb_raw_5) : Nat := fuel64
noncomputable def lp_leb_raw : Loops := fun i R st K => match i with
  | 5 => match st 1, st 8, st 17, st 18, st 19 with
    | (.v (.int .i64) .s y1), (.v (.int .u64) .s y8), (.v (.sl 5 (.int .u8)) .s y17), (.v (.int .i64) .s y18), (.v (.int .i64) .s y19) => loopN (B_leb_raw_5 (fun e4 e5 e6 e7 => K .ret (St.ofList [(4, (.v (.int .u64) .s e4)), (5, (.v (.int .u8) .s e5)), (6, (.v (.int .i64) .s e6)), (7, (.v (.int .i64) .s e7))])) (K (.exit 0) (St.ofList []))) (fuel_leb_raw_5 ⟨y1, y8, y17, y18, y19⟩) ⟨y1, y8, y17, y18, y19⟩
    | _, _, _, _, _ => none
  | _ => none
noncomputable def c_leb_raw_5 : Code := match loopAt 5 (body Try.f40.body) with | some c => c | none => .skip
theorem step_leb_raw_5 (R : Type) (K : Ex → St → Option R) (rec : St → Option R) (x : X_leb_raw_5) : evC (envOf gam_leb_raw Try.f40.ntmps fz_leb_raw lv_leb_raw) lp_leb_raw c_leb_raw_5 (S_leb_raw_5 x) (fun e st => match e with | .normal => rec (st.only [1, 8, 17, 18, 19]) | e => K e (st.only (out_leb_raw_5 e))) = B_leb_raw_5 (fun e4 e5 e6 e7 => K .ret (St.ofList [(4, (.v (.int .u64) .s e4)), (5, (.v (.int .u8) .s e5)), (6, (.v (.int .i64) .s e6)), (7, (.v (.int .i64) .s e7))])) (K (.exit 0) (St.ofList [])) (fun x => rec (S_leb_raw_5 x)) x := by kernel_rfl
theorem ok_leb_raw_5 : LoopOk (envOf gam_leb_raw Try.f40.ntmps fz_leb_raw lv_leb_raw) lp_leb_raw c_leb_raw_5 := by
  refine loopOk_of (hd := [1, 8, 17, 18, 19]) (out := out_leb_raw_5) (S := S_leb_raw_5) (fun _ K => B_leb_raw_5 (fun e4 e5 e6 e7 => K .ret (St.ofList [(4, (.v (.int .u64) .s e4)), (5, (.v (.int .u8) .s e5)), (6, (.v (.int .i64) .s e6)), (7, (.v (.int .i64) .s e7))])) (K (.exit 0) (St.ofList []))) fuel_leb_raw_5 5 step_leb_raw_5 (fun x => by kernel_rfl) (by kernel_rfl) ?_
  intro R st K r h
  unfold lp_leb_raw at h
  simp only at h
  split at h
  · rename_i y1 y8 y17 y18 y19 hy1 hy8 hy17 hy18 hy19
    refine ⟨⟨y1, y8, y17, y18, y19⟩, ?_, h⟩
    show St.ofList [(1, st 1), (8, st 8), (17, st 17), (18, st 18), (19, st 19)] = _
    rw [hy1, hy8, hy17, hy18, hy19]
    rfl
  · cases h
noncomputable def p_leb_raw {R : Type} (a0 : List (Int)) (a1 : Int) (K : Int → Int → Int → Int → Option R) : Option R :=
  let v1 := decide (a1 < (1 : Int))
  cond v1
  (K (0 : Int) (0 : Int) (0 : Int) (5 : Int))
  (let v2 := decide (a1 > (64 : Int))
  cond v2
  (K (0 : Int) (0 : Int) (0 : Int) (5 : Int))
  (let v3 := ((List.length a0 : Nat) : Int)
  loopN (B_leb_raw_5 (fun w4 w5 w6 w7 => K w4 w5 w6 w7) (K (0 : Int) (0 : Int) (0 : Int) (1 : Int))) (fuel_leb_raw_5 ⟨a1, (0 : Int), a0, v3, (0 : Int)⟩) ⟨a1, (0 : Int), a0, v3, (0 : Int)⟩))
noncomputable def cs_leb_raw : CSpec := { ins := [(.val (.sl 5 (.int .u8)) .s), (.val (.int .i64) .s)], outs := [((.int .u64), .s), ((.int .u8), .s), ((.int .i64), .s), ((.int .i64), .s)], fn := fun (d : (List (Int)) × Int × Unit) K => p_leb_raw d.1 d.2.1 fun r0 r1 r2 r3 => K ((r0, r1, r2, r3, ()) : Int × Int × Int × Int × Unit) ((()) : Unit) }
theorem h_leb_raw : Holds Try.prog 40 cs_leb_raw := by
  refine holds_of (env := envOf gam_leb_raw Try.f40.ntmps fz_leb_raw lv_leb_raw) (fn := Try.f40) (code := body Try.f40.body) (rs := [(4, none), (5, none), (6, none), (7, none)]) (lp := lp_leb_raw) mixed (envTyOk _ _ _ _) gamOk_leb_raw Try.func40 (by kernel_rfl) (by kernel_rfl) (by kernel_rfl) (by kernel_rfl) (by kernel_rfl) (loopsOk_of fun c hc => ?_) (by kernel_rfl) ?_
  · rw [show loopsL (body Try.f40.body) = [c_leb_raw_5] by kernel_rfl] at hc
    simp only [List.mem_cons, List.not_mem_nil, or_false] at hc
    rcases hc with rfl
    · exact ok_leb_raw_5
  intro d R K res h
  have : evC (envOf gam_leb_raw Try.f40.ntmps fz_leb_raw lv_leb_raw) lp_leb_raw (body Try.f40.body) (St.start cs_leb_raw.ins d) (retK (envOf gam_leb_raw Try.f40.ntmps fz_leb_raw lv_leb_raw) cs_leb_raw.ins cs_leb_raw.outs [(4, none), (5, none), (6, none), (7, none)] K) = cs_leb_raw.fn d K := by kernel_rfl
  rw [this]; exact h
-- f32 trammel/leb.U
noncomputable def fz_leb_U : Nat → Bool
  | _ => false
noncomputable def lv_leb_U : Nat → Option (List Nat)
  | _ => none
noncomputable def gam_leb_U : FuncId → Option CSpec
  | 40 => some cs_leb_raw
  | _ => none
theorem gamOk_leb_U : EnvFn Try.prog (envOf gam_leb_U Try.f32.ntmps fz_leb_U lv_leb_U) := by
  intro f c h
  unfold envOf gam_leb_U at h
  simp only at h
  split at h <;> first | (cases h; done) | (cases h; exact h_leb_raw)
noncomputable def p_leb_U {R : Type} (a0 : List (Int)) (a1 : Int) (K : Int → Int → Int → Option R) : Option R :=
  p_leb_raw a0 a1 fun r1 r2 r3 r4 =>
  let v5 := r4 != (0 : Int)
  cond v5
  (K (0 : Int) (0 : Int) r4)
  (let v6 := IntKind.i64.wrap (r3 - (1 : Int))
  let v7 := IntKind.i64.wrap ((7 : Int) * v6)
  let v8 := IntKind.i64.wrap (a1 - v7)
  let v9 := decide (v8 < (7 : Int))
  cond v9
  (let v10 := IntKind.u64.wrap v8
  cond (decide (0 ≤ v10))
  (let v11 := shrI .u8 r2 v10
  let v12 := v11 != (0 : Int)
  cond v12
  (K (0 : Int) (0 : Int) (2 : Int))
  (K r1 r3 (0 : Int))) none)
  (K r1 r3 (0 : Int)))
noncomputable def cs_leb_U : CSpec := { ins := [(.val (.sl 5 (.int .u8)) .s), (.val (.int .i64) .s)], outs := [((.int .u64), .s), ((.int .i64), .s), ((.int .i64), .s)], fn := fun (d : (List (Int)) × Int × Unit) K => p_leb_U d.1 d.2.1 fun r0 r1 r2 => K ((r0, r1, r2, ()) : Int × Int × Int × Unit) ((()) : Unit) }
theorem h_leb_U : Holds Try.prog 32 cs_leb_U := by
  refine holds_of (env := envOf gam_leb_U Try.f32.ntmps fz_leb_U lv_leb_U) (fn := Try.f32) (code := body Try.f32.body) (rs := [(4, none), (5, none), (6, none)]) (lp := lp0) mixed (envTyOk _ _ _ _) gamOk_leb_U Try.func32 (by kernel_rfl) (by kernel_rfl) (by kernel_rfl) (by kernel_rfl) (by kernel_rfl) (loopsOk_none (by kernel_rfl)) (by kernel_rfl) ?_
  intro d R K res h
  have : evC (envOf gam_leb_U Try.f32.ntmps fz_leb_U lv_leb_U) lp0 (body Try.f32.body) (St.start cs_leb_U.ins d) (retK (envOf gam_leb_U Try.f32.ntmps fz_leb_U lv_leb_U) cs_leb_U.ins cs_leb_U.outs [(4, none), (5, none), (6, none)] K) = cs_leb_U.fn d K := by kernel_rfl
  rw [this]; exact h
-- f27 trammel/utf.tail
noncomputable def fz_utf_tail : Nat → Bool
  | _ => false
noncomputable def lv_utf_tail : Nat → Option (List Nat)
  | _ => none
noncomputable def gam_utf_tail : FuncId → Option CSpec
  | _ => none
theorem gamOk_utf_tail : EnvFn Try.prog (envOf gam_utf_tail Try.f27.ntmps fz_utf_tail lv_utf_tail) := by
  intro f c h
  unfold envOf gam_utf_tail at h
  simp only at h
  cases h
noncomputable def p_utf_tail {R : Type} (a0 : Int) (K : Int → Int → Int → Bool → Option R) : Option R :=
  let v1 := decide (a0 < (128 : Int))
  cond v1
  (K (0 : Int) (0 : Int) (0 : Int) true)
  (let v2 := decide (a0 ≥ (194 : Int))
  cond v2
  (let v3 := decide (a0 ≤ (223 : Int))
  cond v3
  (K (1 : Int) (128 : Int) (191 : Int) true)
  (let v4 := a0 == (224 : Int)
  cond v4
  (K (2 : Int) (160 : Int) (191 : Int) true)
  (let v5 := a0 == (237 : Int)
  cond v5
  (K (2 : Int) (128 : Int) (159 : Int) true)
  (let v6 := decide (a0 ≥ (225 : Int))
  cond v6
  (let v7 := decide (a0 ≤ (239 : Int))
  cond v7
  (K (2 : Int) (128 : Int) (191 : Int) true)
  (let v8 := a0 == (240 : Int)
  cond v8
  (K (3 : Int) (144 : Int) (191 : Int) true)
  (let v9 := a0 == (244 : Int)
  cond v9
  (K (3 : Int) (128 : Int) (143 : Int) true)
  (let v10 := decide (a0 ≥ (241 : Int))
  cond v10
  (let v11 := decide (a0 ≤ (243 : Int))
  cond v11
  (K (3 : Int) (128 : Int) (191 : Int) true)
  (K (0 : Int) (0 : Int) (0 : Int) false))
  (K (0 : Int) (0 : Int) (0 : Int) false)))))
  (let v12 := a0 == (240 : Int)
  cond v12
  (K (3 : Int) (144 : Int) (191 : Int) true)
  (let v13 := a0 == (244 : Int)
  cond v13
  (K (3 : Int) (128 : Int) (143 : Int) true)
  (let v14 := decide (a0 ≥ (241 : Int))
  cond v14
  (let v15 := decide (a0 ≤ (243 : Int))
  cond v15
  (K (3 : Int) (128 : Int) (191 : Int) true)
  (K (0 : Int) (0 : Int) (0 : Int) false))
  (K (0 : Int) (0 : Int) (0 : Int) false))))))))
  (let v16 := a0 == (224 : Int)
  cond v16
  (K (2 : Int) (160 : Int) (191 : Int) true)
  (let v17 := a0 == (237 : Int)
  cond v17
  (K (2 : Int) (128 : Int) (159 : Int) true)
  (let v18 := decide (a0 ≥ (225 : Int))
  cond v18
  (let v19 := decide (a0 ≤ (239 : Int))
  cond v19
  (K (2 : Int) (128 : Int) (191 : Int) true)
  (let v20 := a0 == (240 : Int)
  cond v20
  (K (3 : Int) (144 : Int) (191 : Int) true)
  (let v21 := a0 == (244 : Int)
  cond v21
  (K (3 : Int) (128 : Int) (143 : Int) true)
  (let v22 := decide (a0 ≥ (241 : Int))
  cond v22
  (let v23 := decide (a0 ≤ (243 : Int))
  cond v23
  (K (3 : Int) (128 : Int) (191 : Int) true)
  (K (0 : Int) (0 : Int) (0 : Int) false))
  (K (0 : Int) (0 : Int) (0 : Int) false)))))
  (let v24 := a0 == (240 : Int)
  cond v24
  (K (3 : Int) (144 : Int) (191 : Int) true)
  (let v25 := a0 == (244 : Int)
  cond v25
  (K (3 : Int) (128 : Int) (143 : Int) true)
  (let v26 := decide (a0 ≥ (241 : Int))
  cond v26
  (let v27 := decide (a0 ≤ (243 : Int))
  cond v27
  (K (3 : Int) (128 : Int) (191 : Int) true)
  (K (0 : Int) (0 : Int) (0 : Int) false))
  (K (0 : Int) (0 : Int) (0 : Int) false))))))))
noncomputable def cs_utf_tail : CSpec := { ins := [(.val (.int .u8) .s)], outs := [((.int .i64), .s), ((.int .u8), .s), ((.int .u8), .s), (.bool, .s)], fn := fun (d : Int × Unit) K => p_utf_tail d.1 fun r0 r1 r2 r3 => K ((r0, r1, r2, r3, ()) : Int × Int × Int × Bool × Unit) ((()) : Unit) }
theorem h_utf_tail : Holds Try.prog 27 cs_utf_tail := by
  refine holds_of (env := envOf gam_utf_tail Try.f27.ntmps fz_utf_tail lv_utf_tail) (fn := Try.f27) (code := body Try.f27.body) (rs := [(2, none), (3, none), (4, none), (5, none)]) (lp := lp0) mixed (envTyOk _ _ _ _) gamOk_utf_tail Try.func27 (by kernel_rfl) (by kernel_rfl) (by kernel_rfl) (by kernel_rfl) (by kernel_rfl) (loopsOk_none (by kernel_rfl)) (by kernel_rfl) ?_
  intro d R K res h
  have : evC (envOf gam_utf_tail Try.f27.ntmps fz_utf_tail lv_utf_tail) lp0 (body Try.f27.body) (St.start cs_utf_tail.ins d) (retK (envOf gam_utf_tail Try.f27.ntmps fz_utf_tail lv_utf_tail) cs_utf_tail.ins cs_utf_tail.outs [(2, none), (3, none), (4, none), (5, none)] K) = cs_utf_tail.fn d K := by kernel_rfl
  rw [this]; exact h
-- f11 trammel/utf.Valid
noncomputable def fz_utf_Valid : Nat → Bool
  | _ => false
noncomputable def lv_utf_Valid : Nat → Option (List Nat)
  | _ => none
noncomputable def gam_utf_Valid : FuncId → Option CSpec
  | 27 => some cs_utf_tail
  | _ => none
theorem gamOk_utf_Valid : EnvFn Try.prog (envOf gam_utf_Valid Try.f11.ntmps fz_utf_Valid lv_utf_Valid) := by
  intro f c h
  unfold envOf gam_utf_Valid at h
  simp only at h
  split at h <;> first | (cases h; done) | (cases h; exact h_utf_tail)
structure X_utf_Valid_7 where
  f0 : List UInt8
  f3 : Int
  f4 : Int
  f5 : Int
  f6 : Int
  f8 : Int
  f26 : Int
  f27 : List UInt8
  f28 : Int
  f29 : Int
  f30 : Int
  f31 : Int
  f32 : Bool

noncomputable def B_utf_Valid_7 {R : Type} (k_ret : Bool → Option R) (k_exit_2 : (List UInt8) → Int → Int → Int → (List UInt8) → Int → Int → Int → Int → Bool → Option R) (rec : X_utf_Valid_7 → Option R) (x : X_utf_Valid_7) : Option R :=
  let v1 := decide (x.f8 ≤ x.f4)
  cond v1
  (let v2 := IntKind.i64.wrap (x.f3 + x.f8)
  cond (inB v2 (List.length x.f0))
  (let v3 := bt x.f0 v2
  let v4 := decide (v3 < x.f5)
  cond v4
  (k_ret false)
  (let v5 := decide (v3 > x.f6)
  cond v5
  (k_ret false)
  (let v6 := IntKind.i64.wrap (x.f8 + (1 : Int))
  rec ⟨x.f0, x.f3, x.f4, (128 : Int), (191 : Int), v6, x.f26, x.f27, x.f28, x.f29, x.f30, x.f31, x.f32⟩))) none)
  (k_exit_2 x.f0 x.f3 x.f4 x.f26 x.f27 x.f28 x.f29 x.f30 x.f31 x.f32)
noncomputable def S_utf_Valid_7 (x : X_utf_Valid_7) : St := St.ofList [(0, (.v .str .s x.f0)), (3, (.v (.int .i64) .s x.f3)), (4, (.v (.int .i64) .s x.f4)), (5, (.v (.int .u8) .s x.f5)), (6, (.v (.int .u8) .s x.f6)), (8, (.v (.int .i64) .s x.f8)), (26, (.v (.int .i64) .s x.f26)), (27, (.v .str .s x.f27)), (28, (.v (.int .i64) .s x.f28)), (29, (.v (.int .i64) .s x.f29)), (30, (.v (.int .i64) .s x.f30)), (31, (.v (.int .i64) .s x.f31)), (32, (.v .bool .s x.f32))]
def out_utf_Valid_7 : Ex → List Nat | .ret => [2] | (.exit 2) => [0, 3, 4, 26, 27, 28, 29, 30, 31, 32] | _ => []
noncomputable def fuel_utf_Valid_7 (x : X_utf_Valid_7) : Nat := fuel64
structure X_utf_Valid_2 where
  f0 : List UInt8
  f3 : Int

noncomputable def B_utf_Valid_2 {R : Type} (k_ret : Bool → Option R) (k_exit_0 : Option R) (rec : X_utf_Valid_2 → Option R) (x : X_utf_Valid_2) : Option R :=
  let v1 := ((List.length x.f0 : Nat) : Int)
  let v2 := decide (x.f3 < v1)
  cond v2
  (cond (inB x.f3 (List.length x.f0))
  (let v3 := bt x.f0 x.f3
  p_utf_tail v3 fun r4 r5 r6 r7 =>
  let v8 := !r7
  cond v8
  (k_ret false)
  (let v9 := ((List.length x.f0 : Nat) : Int)
  let v10 := IntKind.i64.wrap (v9 - x.f3)
  let v11 := IntKind.i64.wrap (v10 - (1 : Int))
  let v12 := decide (r4 > v11)
  cond v12
  (k_ret false)
  (loopN (B_utf_Valid_7 (fun w13 => k_ret w13) (fun w14 w15 w16 w17 w18 w19 w20 w21 w22 w23 => let v24 := IntKind.i64.wrap ((1 : Int) + w16)
  let v25 := IntKind.i64.wrap (w15 + v24)
  rec ⟨w14, v25⟩)) (fuel_utf_Valid_7 ⟨x.f0, x.f3, r4, r5, r6, (1 : Int), r4, x.f0, v9, x.f3, v10, v11, v12⟩) ⟨x.f0, x.f3, r4, r5, r6, (1 : Int), r4, x.f0, v9, x.f3, v10, v11, v12⟩))) none)
  (k_exit_0)
noncomputable def S_utf_Valid_2 (x : X_utf_Valid_2) : St := St.ofList [(0, (.v .str .s x.f0)), (3, (.v (.int .i64) .s x.f3))]
def out_utf_Valid_2 : Ex → List Nat | .ret => [2] | (.exit 0) => [] | _ => []
noncomputable def fuel_utf_Valid_2 (x : X_utf_Valid_2) : Nat := fuel64
noncomputable def lp_utf_Valid : Loops := fun i R st K => match i with
  | 7 => match st 0, st 3, st 4, st 5, st 6, st 8, st 26, st 27, st 28, st 29, st 30, st 31, st 32 with
    | (.v .str .s y0), (.v (.int .i64) .s y3), (.v (.int .i64) .s y4), (.v (.int .u8) .s y5), (.v (.int .u8) .s y6), (.v (.int .i64) .s y8), (.v (.int .i64) .s y26), (.v .str .s y27), (.v (.int .i64) .s y28), (.v (.int .i64) .s y29), (.v (.int .i64) .s y30), (.v (.int .i64) .s y31), (.v .bool .s y32) => loopN (B_utf_Valid_7 (fun e2 => K .ret (St.ofList [(2, (.v .bool .s e2))])) (fun e0 e3 e4 e26 e27 e28 e29 e30 e31 e32 => K (.exit 2) (St.ofList [(0, (.v .str .s e0)), (3, (.v (.int .i64) .s e3)), (4, (.v (.int .i64) .s e4)), (26, (.v (.int .i64) .s e26)), (27, (.v .str .s e27)), (28, (.v (.int .i64) .s e28)), (29, (.v (.int .i64) .s e29)), (30, (.v (.int .i64) .s e30)), (31, (.v (.int .i64) .s e31)), (32, (.v .bool .s e32))]))) (fuel_utf_Valid_7 ⟨y0, y3, y4, y5, y6, y8, y26, y27, y28, y29, y30, y31, y32⟩) ⟨y0, y3, y4, y5, y6, y8, y26, y27, y28, y29, y30, y31, y32⟩
    | _, _, _, _, _, _, _, _, _, _, _, _, _ => none
  | 2 => match st 0, st 3 with
    | (.v .str .s y0), (.v (.int .i64) .s y3) => loopN (B_utf_Valid_2 (fun e2 => K .ret (St.ofList [(2, (.v .bool .s e2))])) (K (.exit 0) (St.ofList []))) (fuel_utf_Valid_2 ⟨y0, y3⟩) ⟨y0, y3⟩
    | _, _ => none
  | _ => none
noncomputable def c_utf_Valid_7 : Code := match loopAt 7 (body Try.f11.body) with | some c => c | none => .skip
theorem step_utf_Valid_7 (R : Type) (K : Ex → St → Option R) (rec : St → Option R) (x : X_utf_Valid_7) : evC (envOf gam_utf_Valid Try.f11.ntmps fz_utf_Valid lv_utf_Valid) lp_utf_Valid c_utf_Valid_7 (S_utf_Valid_7 x) (fun e st => match e with | .normal => rec (st.only [0, 3, 4, 5, 6, 8, 26, 27, 28, 29, 30, 31, 32]) | e => K e (st.only (out_utf_Valid_7 e))) = B_utf_Valid_7 (fun e2 => K .ret (St.ofList [(2, (.v .bool .s e2))])) (fun e0 e3 e4 e26 e27 e28 e29 e30 e31 e32 => K (.exit 2) (St.ofList [(0, (.v .str .s e0)), (3, (.v (.int .i64) .s e3)), (4, (.v (.int .i64) .s e4)), (26, (.v (.int .i64) .s e26)), (27, (.v .str .s e27)), (28, (.v (.int .i64) .s e28)), (29, (.v (.int .i64) .s e29)), (30, (.v (.int .i64) .s e30)), (31, (.v (.int .i64) .s e31)), (32, (.v .bool .s e32))])) (fun x => rec (S_utf_Valid_7 x)) x := by kernel_rfl
theorem ok_utf_Valid_7 : LoopOk (envOf gam_utf_Valid Try.f11.ntmps fz_utf_Valid lv_utf_Valid) lp_utf_Valid c_utf_Valid_7 := by
  refine loopOk_of (hd := [0, 3, 4, 5, 6, 8, 26, 27, 28, 29, 30, 31, 32]) (out := out_utf_Valid_7) (S := S_utf_Valid_7) (fun _ K => B_utf_Valid_7 (fun e2 => K .ret (St.ofList [(2, (.v .bool .s e2))])) (fun e0 e3 e4 e26 e27 e28 e29 e30 e31 e32 => K (.exit 2) (St.ofList [(0, (.v .str .s e0)), (3, (.v (.int .i64) .s e3)), (4, (.v (.int .i64) .s e4)), (26, (.v (.int .i64) .s e26)), (27, (.v .str .s e27)), (28, (.v (.int .i64) .s e28)), (29, (.v (.int .i64) .s e29)), (30, (.v (.int .i64) .s e30)), (31, (.v (.int .i64) .s e31)), (32, (.v .bool .s e32))]))) fuel_utf_Valid_7 7 step_utf_Valid_7 (fun x => by kernel_rfl) (by kernel_rfl) ?_
  intro R st K r h
  unfold lp_utf_Valid at h
  simp only at h
  split at h
  · rename_i y0 y3 y4 y5 y6 y8 y26 y27 y28 y29 y30 y31 y32 hy0 hy3 hy4 hy5 hy6 hy8 hy26 hy27 hy28 hy29 hy30 hy31 hy32
    refine ⟨⟨y0, y3, y4, y5, y6, y8, y26, y27, y28, y29, y30, y31, y32⟩, ?_, h⟩
    show St.ofList [(0, st 0), (3, st 3), (4, st 4), (5, st 5), (6, st 6), (8, st 8), (26, st 26), (27, st 27), (28, st 28), (29, st 29), (30, st 30), (31, st 31), (32, st 32)] = _
    rw [hy0, hy3, hy4, hy5, hy6, hy8, hy26, hy27, hy28, hy29, hy30, hy31, hy32]
    rfl
  · cases h
noncomputable def c_utf_Valid_2 : Code := match loopAt 2 (body Try.f11.body) with | some c => c | none => .skip
theorem step_utf_Valid_2 (R : Type) (K : Ex → St → Option R) (rec : St → Option R) (x : X_utf_Valid_2) : evC (envOf gam_utf_Valid Try.f11.ntmps fz_utf_Valid lv_utf_Valid) lp_utf_Valid c_utf_Valid_2 (S_utf_Valid_2 x) (fun e st => match e with | .normal => rec (st.only [0, 3]) | e => K e (st.only (out_utf_Valid_2 e))) = B_utf_Valid_2 (fun e2 => K .ret (St.ofList [(2, (.v .bool .s e2))])) (K (.exit 0) (St.ofList [])) (fun x => rec (S_utf_Valid_2 x)) x := by kernel_rfl
theorem ok_utf_Valid_2 : LoopOk (envOf gam_utf_Valid Try.f11.ntmps fz_utf_Valid lv_utf_Valid) lp_utf_Valid c_utf_Valid_2 := by
  refine loopOk_of (hd := [0, 3]) (out := out_utf_Valid_2) (S := S_utf_Valid_2) (fun _ K => B_utf_Valid_2 (fun e2 => K .ret (St.ofList [(2, (.v .bool .s e2))])) (K (.exit 0) (St.ofList []))) fuel_utf_Valid_2 2 step_utf_Valid_2 (fun x => by kernel_rfl) (by kernel_rfl) ?_
  intro R st K r h
  unfold lp_utf_Valid at h
  simp only at h
  split at h
  · rename_i y0 y3 hy0 hy3
    refine ⟨⟨y0, y3⟩, ?_, h⟩
    show St.ofList [(0, st 0), (3, st 3)] = _
    rw [hy0, hy3]
    rfl
  · cases h
noncomputable def p_utf_Valid {R : Type} (a0 : List UInt8) (K : Bool → Option R) : Option R :=
  loopN (B_utf_Valid_2 (fun w1 => K w1) (K true)) (fuel_utf_Valid_2 ⟨a0, (0 : Int)⟩) ⟨a0, (0 : Int)⟩
noncomputable def cs_utf_Valid : CSpec := { ins := [(.val .str .s)], outs := [(.bool, .s)], fn := fun (d : (List UInt8) × Unit) K => p_utf_Valid d.1 fun r0 => K ((r0, ()) : Bool × Unit) ((()) : Unit) }
theorem h_utf_Valid : Holds Try.prog 11 cs_utf_Valid := by
  refine holds_of (env := envOf gam_utf_Valid Try.f11.ntmps fz_utf_Valid lv_utf_Valid) (fn := Try.f11) (code := body Try.f11.body) (rs := [(2, none)]) (lp := lp_utf_Valid) mixed (envTyOk _ _ _ _) gamOk_utf_Valid Try.func11 (by kernel_rfl) (by kernel_rfl) (by kernel_rfl) (by kernel_rfl) (by kernel_rfl) (loopsOk_of fun c hc => ?_) (by kernel_rfl) ?_
  · rw [show loopsL (body Try.f11.body) = [c_utf_Valid_2, c_utf_Valid_7] by kernel_rfl] at hc
    simp only [List.mem_cons, List.not_mem_nil, or_false] at hc
    rcases hc with rfl | rfl
    · exact ok_utf_Valid_2
    · exact ok_utf_Valid_7
  intro d R K res h
  have : evC (envOf gam_utf_Valid Try.f11.ntmps fz_utf_Valid lv_utf_Valid) lp_utf_Valid (body Try.f11.body) (St.start cs_utf_Valid.ins d) (retK (envOf gam_utf_Valid Try.f11.ntmps fz_utf_Valid lv_utf_Valid) cs_utf_Valid.ins cs_utf_Valid.outs [(2, none)] K) = cs_utf_Valid.fn d K := by kernel_rfl
  rw [this]; exact h
-- f22 trammel/utf.Name
noncomputable def fz_utf_Name : Nat → Bool
  | _ => false
noncomputable def lv_utf_Name : Nat → Option (List Nat)
  | _ => none
noncomputable def gam_utf_Name : FuncId → Option CSpec
  | 11 => some cs_utf_Valid
  | 32 => some cs_leb_U
  | _ => none
theorem gamOk_utf_Name : EnvFn Try.prog (envOf gam_utf_Name Try.f22.ntmps fz_utf_Name lv_utf_Name) := by
  intro f c h
  unfold envOf gam_utf_Name at h
  simp only at h
  split at h <;> first | (cases h; done) | (cases h; exact h_utf_Valid) | (cases h; exact h_leb_U)
noncomputable def p_utf_Name {R : Type} (a0 : List (Int)) (K : (List UInt8) → Int → Int → Option R) : Option R :=
  p_leb_U a0 (32 : Int) fun r1 r2 r3 =>
  let v4 := r3 != (0 : Int)
  cond v4
  (K ([] : List UInt8) (0 : Int) r3)
  (let v5 := ((List.length a0 : Nat) : Int)
  let v6 := IntKind.i64.wrap (v5 - r2)
  let v7 := IntKind.u64.wrap v6
  let v8 := decide (r1 > v7)
  cond v8
  (K ([] : List UInt8) (0 : Int) (1 : Int))
  (let v9 := IntKind.i64.wrap r1
  let v10 := IntKind.i64.wrap (r2 + v9)
  cond (inR r2 v10 (List.length a0))
  (let v11 := rng a0 r2 v10
  let v12 := u8s v11
  p_utf_Valid v12 fun r13 =>
  let v14 := !r13
  cond v14
  (K ([] : List UInt8) (0 : Int) (2 : Int))
  (let v15 := ((List.length v12 : Nat) : Int)
  let v16 := decide (v15 > (64 : Int))
  cond v16
  (K ([] : List UInt8) (0 : Int) (4 : Int))
  (let v17 := ((List.length v12 : Nat) : Int)
  let v18 := IntKind.i64.wrap (r2 + v17)
  K v12 v18 (0 : Int)))) none))
noncomputable def cs_utf_Name : CSpec := { ins := [(.val (.sl 5 (.int .u8)) .s)], outs := [(.str, .s), ((.int .i64), .s), ((.int .i64), .s)], fn := fun (d : (List (Int)) × Unit) K => p_utf_Name d.1 fun r0 r1 r2 => K ((r0, r1, r2, ()) : (List UInt8) × Int × Int × Unit) ((()) : Unit) }
theorem h_utf_Name : Holds Try.prog 22 cs_utf_Name := by
  refine holds_of (env := envOf gam_utf_Name Try.f22.ntmps fz_utf_Name lv_utf_Name) (fn := Try.f22) (code := body Try.f22.body) (rs := [(2, none), (3, none), (4, none)]) (lp := lp0) mixed (envTyOk _ _ _ _) gamOk_utf_Name Try.func22 (by kernel_rfl) (by kernel_rfl) (by kernel_rfl) (by kernel_rfl) (by kernel_rfl) (loopsOk_none (by kernel_rfl)) (by kernel_rfl) ?_
  intro d R K res h
  have : evC (envOf gam_utf_Name Try.f22.ntmps fz_utf_Name lv_utf_Name) lp0 (body Try.f22.body) (St.start cs_utf_Name.ins d) (retK (envOf gam_utf_Name Try.f22.ntmps fz_utf_Name lv_utf_Name) cs_utf_Name.ins cs_utf_Name.outs [(2, none), (3, none), (4, none)] K) = cs_utf_Name.fn d K := by kernel_rfl
  rw [this]; exact h
-- f10 trammel/trammellaw02.awake
noncomputable def fz_law02_awake : Nat → Bool
  | _ => false
noncomputable def lv_law02_awake : Nat → Option (List Nat)
  | _ => none
noncomputable def gam_law02_awake : FuncId → Option CSpec
  | 11 => some cs_utf_Valid
  | 22 => some cs_utf_Name
  | _ => none
theorem gamOk_law02_awake : EnvFn Try.prog (envOf gam_law02_awake Try.f10.ntmps fz_law02_awake lv_law02_awake) := by
  intro f c h
  unfold envOf gam_law02_awake at h
  simp only at h
  split at h <;> first | (cases h; done) | (cases h; exact h_utf_Valid) | (cases h; exact h_utf_Name)
noncomputable def p_law02_awake {R : Type}  (K : Bool → Option R) : Option R :=
  let v1 := List.set (List.set (List.set (List.set (List.replicate 4 (0 : Int)) 0 (2 : Int)) 1 (195 : Int)) 2 (169 : Int)) 3 (7 : Int)
  p_utf_Name v1 fun r2 r3 r4 =>
  let v5 := r4 == (0 : Int)
  cond v5
  (let v6 := r2 == ([195, 169] : List UInt8)
  cond v6
  (let v7 := r3 == (3 : Int)
  cond v7
  (p_utf_Valid ([97] : List UInt8) fun r8 =>
  cond r8
  (p_utf_Valid ([192, 128] : List UInt8) fun r9 =>
  let v10 := !r9
  K v10)
  (K false))
  (K false))
  (K false))
  (K false)
noncomputable def cs_law02_awake : CSpec := { ins := [], outs := [(.bool, .s)], fn := fun (d : Unit) K => p_law02_awake  fun r0 => K ((r0, ()) : Bool × Unit) ((()) : Unit) }
theorem h_law02_awake : Holds Try.prog 10 cs_law02_awake := by
  refine holds_of (env := envOf gam_law02_awake Try.f10.ntmps fz_law02_awake lv_law02_awake) (fn := Try.f10) (code := body Try.f10.body) (rs := [(0, none)]) (lp := lp0) mixed (envTyOk _ _ _ _) gamOk_law02_awake Try.func10 (by kernel_rfl) (by kernel_rfl) (by kernel_rfl) (by kernel_rfl) (by kernel_rfl) (loopsOk_none (by kernel_rfl)) (by kernel_rfl) ?_
  intro d R K res h
  have : evC (envOf gam_law02_awake Try.f10.ntmps fz_law02_awake lv_law02_awake) lp0 (body Try.f10.body) (St.start cs_law02_awake.ins d) (retK (envOf gam_law02_awake Try.f10.ntmps fz_law02_awake lv_law02_awake) cs_law02_awake.ins cs_law02_awake.outs [(0, none)] K) = cs_law02_awake.fn d K := by kernel_rfl
  rw [this]; exact h
-- f28 trammel/trammelref02.size
noncomputable def fz_ref02_size : Nat → Bool
  | _ => false
noncomputable def lv_ref02_size : Nat → Option (List Nat)
  | _ => none
noncomputable def gam_ref02_size : FuncId → Option CSpec
  | _ => none
theorem gamOk_ref02_size : EnvFn Try.prog (envOf gam_ref02_size Try.f28.ntmps fz_ref02_size lv_ref02_size) := by
  intro f c h
  unfold envOf gam_ref02_size at h
  simp only at h
  cases h
noncomputable def p_ref02_size {R : Type} (a0 : Int) (K : Int → Option R) : Option R :=
  let v1 := decide (a0 < (128 : Int))
  cond v1
  (K (1 : Int))
  (let v2 := decide (a0 ≥ (192 : Int))
  cond v2
  (let v3 := decide (a0 < (224 : Int))
  cond v3
  (K (2 : Int))
  (let v4 := decide (a0 ≥ (224 : Int))
  cond v4
  (let v5 := decide (a0 < (240 : Int))
  cond v5
  (K (3 : Int))
  (let v6 := decide (a0 ≥ (240 : Int))
  cond v6
  (let v7 := decide (a0 < (248 : Int))
  cond v7
  (K (4 : Int))
  (K (0 : Int)))
  (K (0 : Int))))
  (let v8 := decide (a0 ≥ (240 : Int))
  cond v8
  (let v9 := decide (a0 < (248 : Int))
  cond v9
  (K (4 : Int))
  (K (0 : Int)))
  (K (0 : Int)))))
  (let v10 := decide (a0 ≥ (224 : Int))
  cond v10
  (let v11 := decide (a0 < (240 : Int))
  cond v11
  (K (3 : Int))
  (let v12 := decide (a0 ≥ (240 : Int))
  cond v12
  (let v13 := decide (a0 < (248 : Int))
  cond v13
  (K (4 : Int))
  (K (0 : Int)))
  (K (0 : Int))))
  (let v14 := decide (a0 ≥ (240 : Int))
  cond v14
  (let v15 := decide (a0 < (248 : Int))
  cond v15
  (K (4 : Int))
  (K (0 : Int)))
  (K (0 : Int)))))
noncomputable def cs_ref02_size : CSpec := { ins := [(.val (.int .u8) .s)], outs := [((.int .i64), .s)], fn := fun (d : Int × Unit) K => p_ref02_size d.1 fun r0 => K ((r0, ()) : Int × Unit) ((()) : Unit) }
theorem h_ref02_size : Holds Try.prog 28 cs_ref02_size := by
  refine holds_of (env := envOf gam_ref02_size Try.f28.ntmps fz_ref02_size lv_ref02_size) (fn := Try.f28) (code := body Try.f28.body) (rs := [(2, none)]) (lp := lp0) mixed (envTyOk _ _ _ _) gamOk_ref02_size Try.func28 (by kernel_rfl) (by kernel_rfl) (by kernel_rfl) (by kernel_rfl) (by kernel_rfl) (loopsOk_none (by kernel_rfl)) (by kernel_rfl) ?_
  intro d R K res h
  have : evC (envOf gam_ref02_size Try.f28.ntmps fz_ref02_size lv_ref02_size) lp0 (body Try.f28.body) (St.start cs_ref02_size.ins d) (retK (envOf gam_ref02_size Try.f28.ntmps fz_ref02_size lv_ref02_size) cs_ref02_size.ins cs_ref02_size.outs [(2, none)] K) = cs_ref02_size.fn d K := by kernel_rfl
  rw [this]; exact h
-- f29 trammel/trammelref02.form
noncomputable def fz_ref02_form : Nat → Bool
  | _ => false
noncomputable def lv_ref02_form : Nat → Option (List Nat)
  | _ => none
noncomputable def gam_ref02_form : FuncId → Option CSpec
  | _ => none
theorem gamOk_ref02_form : EnvFn Try.prog (envOf gam_ref02_form Try.f29.ntmps fz_ref02_form lv_ref02_form) := by
  intro f c h
  unfold envOf gam_ref02_form at h
  simp only at h
  cases h
noncomputable def p_ref02_form {R : Type} (a0 : Int) (K : (List (Int)) → Option R) : Option R :=
  let v1 := decide (a0 < (128 : Int))
  cond v1
  (let v2 := IntKind.u8.wrap a0
  let v3 := List.set (List.replicate 1 (0 : Int)) 0 v2
  K v3)
  (let v4 := decide (a0 < (2048 : Int))
  cond v4
  (cond ((64 : Int) != 0)
  (let v5 := IntKind.i64.wrap (Int.tdiv a0 (64 : Int))
  let v6 := IntKind.i64.wrap ((192 : Int) + v5)
  let v7 := IntKind.u8.wrap v6
  cond ((64 : Int) != 0)
  (let v8 := Int.tmod a0 (64 : Int)
  let v9 := IntKind.i64.wrap ((128 : Int) + v8)
  let v10 := IntKind.u8.wrap v9
  let v11 := List.set (List.set (List.replicate 2 (0 : Int)) 0 v7) 1 v10
  K v11) none) none)
  (let v12 := decide (a0 < (65536 : Int))
  cond v12
  (cond ((4096 : Int) != 0)
  (let v13 := IntKind.i64.wrap (Int.tdiv a0 (4096 : Int))
  let v14 := IntKind.i64.wrap ((224 : Int) + v13)
  let v15 := IntKind.u8.wrap v14
  cond ((64 : Int) != 0)
  (let v16 := IntKind.i64.wrap (Int.tdiv a0 (64 : Int))
  cond ((64 : Int) != 0)
  (let v17 := Int.tmod v16 (64 : Int)
  let v18 := IntKind.i64.wrap ((128 : Int) + v17)
  let v19 := IntKind.u8.wrap v18
  cond ((64 : Int) != 0)
  (let v20 := Int.tmod a0 (64 : Int)
  let v21 := IntKind.i64.wrap ((128 : Int) + v20)
  let v22 := IntKind.u8.wrap v21
  let v23 := List.set (List.set (List.set (List.replicate 3 (0 : Int)) 0 v15) 1 v19) 2 v22
  K v23) none) none) none) none)
  (cond ((262144 : Int) != 0)
  (let v24 := IntKind.i64.wrap (Int.tdiv a0 (262144 : Int))
  let v25 := IntKind.i64.wrap ((240 : Int) + v24)
  let v26 := IntKind.u8.wrap v25
  cond ((4096 : Int) != 0)
  (let v27 := IntKind.i64.wrap (Int.tdiv a0 (4096 : Int))
  cond ((64 : Int) != 0)
  (let v28 := Int.tmod v27 (64 : Int)
  let v29 := IntKind.i64.wrap ((128 : Int) + v28)
  let v30 := IntKind.u8.wrap v29
  cond ((64 : Int) != 0)
  (let v31 := IntKind.i64.wrap (Int.tdiv a0 (64 : Int))
  cond ((64 : Int) != 0)
  (let v32 := Int.tmod v31 (64 : Int)
  let v33 := IntKind.i64.wrap ((128 : Int) + v32)
  let v34 := IntKind.u8.wrap v33
  cond ((64 : Int) != 0)
  (let v35 := Int.tmod a0 (64 : Int)
  let v36 := IntKind.i64.wrap ((128 : Int) + v35)
  let v37 := IntKind.u8.wrap v36
  let v38 := List.set (List.set (List.set (List.set (List.replicate 4 (0 : Int)) 0 v26) 1 v30) 2 v34) 3 v37
  K v38) none) none) none) none) none) none)))
noncomputable def cs_ref02_form : CSpec := { ins := [(.val (.int .i64) .s)], outs := [((.sl 5 (.int .u8)), (.o .s))], fn := fun (d : Int × Unit) K => p_ref02_form d.1 fun r0 => K ((r0, ()) : (List (Int)) × Unit) ((()) : Unit) }
theorem h_ref02_form : Holds Try.prog 29 cs_ref02_form := by
  refine holds_of (env := envOf gam_ref02_form Try.f29.ntmps fz_ref02_form lv_ref02_form) (fn := Try.f29) (code := body Try.f29.body) (rs := [(2, none)]) (lp := lp0) mixed (envTyOk _ _ _ _) gamOk_ref02_form Try.func29 (by kernel_rfl) (by kernel_rfl) (by kernel_rfl) (by kernel_rfl) (by kernel_rfl) (loopsOk_none (by kernel_rfl)) (by kernel_rfl) ?_
  intro d R K res h
  have : evC (envOf gam_ref02_form Try.f29.ntmps fz_ref02_form lv_ref02_form) lp0 (body Try.f29.body) (St.start cs_ref02_form.ins d) (retK (envOf gam_ref02_form Try.f29.ntmps fz_ref02_form lv_ref02_form) cs_ref02_form.ins cs_ref02_form.outs [(2, none)] K) = cs_ref02_form.fn d K := by kernel_rfl
  rw [this]; exact h
-- f21 trammel/trammelref01.Same
noncomputable def fz_ref01_Same : Nat → Bool
  | _ => false
noncomputable def lv_ref01_Same : Nat → Option (List Nat)
  | _ => none
noncomputable def gam_ref01_Same : FuncId → Option CSpec
  | _ => none
theorem gamOk_ref01_Same : EnvFn Try.prog (envOf gam_ref01_Same Try.f21.ntmps fz_ref01_Same lv_ref01_Same) := by
  intro f c h
  unfold envOf gam_ref01_Same at h
  simp only at h
  cases h
structure X_ref01_Same_4 where
  f0 : List (Int)
  f1 : List (Int)
  f5 : Int

noncomputable def B_ref01_Same_4 {R : Type} (k_ret : Bool → Option R) (k_exit_0 : Option R) (rec : X_ref01_Same_4 → Option R) (x : X_ref01_Same_4) : Option R :=
  let v1 := ((List.length x.f0 : Nat) : Int)
  let v2 := decide (x.f5 < v1)
  cond v2
  (cond (inB x.f5 (List.length x.f0))
  (let v3 := List.getD x.f0 x.f5.toNat (0 : Int)
  cond (inB x.f5 (List.length x.f1))
  (let v4 := List.getD x.f1 x.f5.toNat (0 : Int)
  let v5 := v3 != v4
  cond v5
  (k_ret false)
  (let v6 := IntKind.i64.wrap (x.f5 + (1 : Int))
  rec ⟨x.f0, x.f1, v6⟩)) none) none)
  (k_exit_0)
noncomputable def S_ref01_Same_4 (x : X_ref01_Same_4) : St := St.ofList [(0, (.v (.sl 5 (.int .u8)) .s x.f0)), (1, (.v (.sl 5 (.int .u8)) .s x.f1)), (5, (.v (.int .i64) .s x.f5))]
def out_ref01_Same_4 : Ex → List Nat | .ret => [4] | (.exit 0) => [] | _ => []
noncomputable def fuel_ref01_Same_4 (x : X_ref01_Same_4) : Nat := fuel64
noncomputable def lp_ref01_Same : Loops := fun i R st K => match i with
  | 4 => match st 0, st 1, st 5 with
    | (.v (.sl 5 (.int .u8)) .s y0), (.v (.sl 5 (.int .u8)) .s y1), (.v (.int .i64) .s y5) => loopN (B_ref01_Same_4 (fun e4 => K .ret (St.ofList [(4, (.v .bool .s e4))])) (K (.exit 0) (St.ofList []))) (fuel_ref01_Same_4 ⟨y0, y1, y5⟩) ⟨y0, y1, y5⟩
    | _, _, _ => none
  | _ => none
noncomputable def c_ref01_Same_4 : Code := match loopAt 4 (body Try.f21.body) with | some c => c | none => .skip
theorem step_ref01_Same_4 (R : Type) (K : Ex → St → Option R) (rec : St → Option R) (x : X_ref01_Same_4) : evC (envOf gam_ref01_Same Try.f21.ntmps fz_ref01_Same lv_ref01_Same) lp_ref01_Same c_ref01_Same_4 (S_ref01_Same_4 x) (fun e st => match e with | .normal => rec (st.only [0, 1, 5]) | e => K e (st.only (out_ref01_Same_4 e))) = B_ref01_Same_4 (fun e4 => K .ret (St.ofList [(4, (.v .bool .s e4))])) (K (.exit 0) (St.ofList [])) (fun x => rec (S_ref01_Same_4 x)) x := by kernel_rfl
theorem ok_ref01_Same_4 : LoopOk (envOf gam_ref01_Same Try.f21.ntmps fz_ref01_Same lv_ref01_Same) lp_ref01_Same c_ref01_Same_4 := by
  refine loopOk_of (hd := [0, 1, 5]) (out := out_ref01_Same_4) (S := S_ref01_Same_4) (fun _ K => B_ref01_Same_4 (fun e4 => K .ret (St.ofList [(4, (.v .bool .s e4))])) (K (.exit 0) (St.ofList []))) fuel_ref01_Same_4 4 step_ref01_Same_4 (fun x => by kernel_rfl) (by kernel_rfl) ?_
  intro R st K r h
  unfold lp_ref01_Same at h
  simp only at h
  split at h
  · rename_i y0 y1 y5 hy0 hy1 hy5
    refine ⟨⟨y0, y1, y5⟩, ?_, h⟩
    show St.ofList [(0, st 0), (1, st 1), (5, st 5)] = _
    rw [hy0, hy1, hy5]
    rfl
  · cases h
noncomputable def p_ref01_Same {R : Type} (a0 : List (Int)) (a1 : List (Int)) (K : Bool → Option R) : Option R :=
  let v1 := ((List.length a0 : Nat) : Int)
  let v2 := ((List.length a1 : Nat) : Int)
  let v3 := v1 != v2
  cond v3
  (K false)
  (loopN (B_ref01_Same_4 (fun w4 => K w4) (K true)) (fuel_ref01_Same_4 ⟨a0, a1, (0 : Int)⟩) ⟨a0, a1, (0 : Int)⟩)
noncomputable def cs_ref01_Same : CSpec := { ins := [(.val (.sl 5 (.int .u8)) .s), (.val (.sl 5 (.int .u8)) .s)], outs := [(.bool, .s)], fn := fun (d : (List (Int)) × (List (Int)) × Unit) K => p_ref01_Same d.1 d.2.1 fun r0 => K ((r0, ()) : Bool × Unit) ((()) : Unit) }
theorem h_ref01_Same : Holds Try.prog 21 cs_ref01_Same := by
  refine holds_of (env := envOf gam_ref01_Same Try.f21.ntmps fz_ref01_Same lv_ref01_Same) (fn := Try.f21) (code := body Try.f21.body) (rs := [(4, none)]) (lp := lp_ref01_Same) mixed (envTyOk _ _ _ _) gamOk_ref01_Same Try.func21 (by kernel_rfl) (by kernel_rfl) (by kernel_rfl) (by kernel_rfl) (by kernel_rfl) (loopsOk_of fun c hc => ?_) (by kernel_rfl) ?_
  · rw [show loopsL (body Try.f21.body) = [c_ref01_Same_4] by kernel_rfl] at hc
    simp only [List.mem_cons, List.not_mem_nil, or_false] at hc
    rcases hc with rfl
    · exact ok_ref01_Same_4
  intro d R K res h
  have : evC (envOf gam_ref01_Same Try.f21.ntmps fz_ref01_Same lv_ref01_Same) lp_ref01_Same (body Try.f21.body) (St.start cs_ref01_Same.ins d) (retK (envOf gam_ref01_Same Try.f21.ntmps fz_ref01_Same lv_ref01_Same) cs_ref01_Same.ins cs_ref01_Same.outs [(4, none)] K) = cs_ref01_Same.fn d K := by kernel_rfl
  rw [this]; exact h
-- f12 trammel/trammelref02.Valid
noncomputable def fz_ref02_Valid : Nat → Bool
  | 3 => true
  | _ => false
noncomputable def lv_ref02_Valid : Nat → Option (List Nat)
  | 0 => some [0]
  | 1 => some [0]
  | 2 => some [3]
  | 3 => some [3]
  | 4 => some [3, 4]
  | 5 => some []
  | 6 => some [3, 4, 19, 20, 21, 22]
  | 7 => some [3, 4, 5, 19, 20, 21, 22]
  | 8 => some [3, 4, 5, 6, 19, 20, 21, 22]
  | 9 => some [3, 4, 5, 6, 19, 20, 21, 22]
  | 10 => some [3, 4, 5, 6, 19, 20, 21, 22]
  | 11 => some [3, 4, 5, 19, 20, 21, 22]
  | 12 => some []
  | 13 => some [3, 4, 19, 20, 21, 22, 49, 50, 51, 52, 53, 54, 57, 58, 59, 60, 61, 62, 63]
  | 14 => some []
  | _ => none
noncomputable def gam_ref02_Valid : FuncId → Option CSpec
  | 21 => some cs_ref01_Same
  | 28 => some cs_ref02_size
  | 29 => some cs_ref02_form
  | _ => none
theorem gamOk_ref02_Valid : EnvFn Try.prog (envOf gam_ref02_Valid Try.f12.ntmps fz_ref02_Valid lv_ref02_Valid) := by
  intro f c h
  unfold envOf gam_ref02_Valid at h
  simp only at h
  split at h <;> first | (cases h; done) | (cases h; exact h_ref01_Same) | (cases h; exact h_ref02_size) | (cases h; exact h_ref02_form)
structure X_ref02_Valid_8 where
  f3 : List (Int)
  f4 : Int
  f5 : Int
  f6 : Int
  f19 : Int
  f20 : List (Int)
  f21 : Int
  f22 : Bool

noncomputable def B_ref02_Valid_8 {R : Type} (k_exit_2 : (List (Int)) → Int → Int → Int → (List (Int)) → Int → Bool → Option R) (rec : X_ref02_Valid_8 → Option R) (x : X_ref02_Valid_8) : Option R :=
  let v1 := decide (x.f6 < x.f4)
  cond v1
  (let v2 := IntKind.i64.wrap (x.f5 * (64 : Int))
  cond (inB x.f6 (List.length x.f3))
  (let v3 := List.getD x.f3 x.f6.toNat (0 : Int)
  let v4 := IntKind.i64.wrap v3
  cond ((64 : Int) != 0)
  (let v5 := Int.tmod v4 (64 : Int)
  let v6 := IntKind.i64.wrap (v2 + v5)
  let v7 := IntKind.i64.wrap (x.f6 + (1 : Int))
  rec ⟨x.f3, x.f4, v6, v7, x.f19, x.f20, x.f21, x.f22⟩) none) none)
  (k_exit_2 x.f3 x.f4 x.f5 x.f19 x.f20 x.f21 x.f22)
noncomputable def S_ref02_Valid_8 (x : X_ref02_Valid_8) : St := St.ofList [(3, (.v (.sl 5 (.int .u8)) .s x.f3)), (4, (.v (.int .i64) .s x.f4)), (5, (.v (.int .i64) .s x.f5)), (6, (.v (.int .i64) .s x.f6)), (19, (.v (.int .i64) .s x.f19)), (20, (.v (.sl 5 (.int .u8)) .s x.f20)), (21, (.v (.int .i64) .s x.f21)), (22, (.v .bool .s x.f22))]
def out_ref02_Valid_8 : Ex → List Nat | (.exit 2) => [3, 4, 5, 19, 20, 21, 22] | _ => []
noncomputable def fuel_ref02_Valid_8 (x : X_ref02_Valid_8) : Nat := fuel64
structure X_ref02_Valid_2 where
  f3 : List (Int)

noncomputable def B_ref02_Valid_2 {R : Type} (k_ret : Bool → Option R) (k_exit_0 : Option R) (rec : X_ref02_Valid_2 → Option R) (x : X_ref02_Valid_2) : Option R :=
  let v1 := ((List.length x.f3 : Nat) : Int)
  let v2 := decide (v1 > (0 : Int))
  cond v2
  (cond (inB (0 : Int) (List.length x.f3))
  (let v3 := List.getD x.f3 (0 : Int).toNat (0 : Int)
  p_ref02_size v3 fun r4 =>
  let v5 := r4 == (0 : Int)
  cond v5
  (k_ret false)
  (let v6 := ((List.length x.f3 : Nat) : Int)
  let v7 := decide (r4 > v6)
  cond v7
  (k_ret false)
  (cond (inB (0 : Int) (List.length x.f3))
  (let v8 := List.getD x.f3 (0 : Int).toNat (0 : Int)
  let v9 := IntKind.i64.wrap v8
  let v10 := List.set (List.set (List.set (List.set (List.set (List.replicate 5 (0 : Int)) 0 (0 : Int)) 1 (128 : Int)) 2 (32 : Int)) 3 (16 : Int)) 4 (8 : Int)
  cond (inB r4 5)
  (let v11 := List.getD v10 r4.toNat (0 : Int)
  cond (v11 != 0)
  (let v12 := Int.tmod v9 v11
  loopN (B_ref02_Valid_8 (fun w13 w14 w15 w16 w17 w18 w19 => let v20 := decide (w15 > (1114111 : Int))
  cond v20
  (k_ret false)
  (let v21 := decide (w15 ≥ (55296 : Int))
  cond v21
  (let v22 := decide (w15 ≤ (57343 : Int))
  cond v22
  (k_ret false)
  (cond (inR (0 : Int) w14 (List.length w13))
  (let v23 := rng w13 (0 : Int) w14
  p_ref02_form w15 fun r24 =>
  p_ref01_Same r24 v23 fun r25 =>
  let v26 := !r25
  cond v26
  (k_ret false)
  (cond (inR w14 ((List.length w13 : Nat) : Int) (List.length w13))
  (let v27 := rng w13 w14 ((List.length w13 : Nat) : Int)
  rec ⟨v27⟩) none)) none))
  (cond (inR (0 : Int) w14 (List.length w13))
  (let v28 := rng w13 (0 : Int) w14
  p_ref02_form w15 fun r29 =>
  p_ref01_Same r29 v28 fun r30 =>
  let v31 := !r30
  cond v31
  (k_ret false)
  (cond (inR w14 ((List.length w13 : Nat) : Int) (List.length w13))
  (let v32 := rng w13 w14 ((List.length w13 : Nat) : Int)
  rec ⟨v32⟩) none)) none)))) (fuel_ref02_Valid_8 ⟨x.f3, r4, v12, (1 : Int), r4, x.f3, v6, v7⟩) ⟨x.f3, r4, v12, (1 : Int), r4, x.f3, v6, v7⟩) none) none) none))) none)
  (k_exit_0)
noncomputable def S_ref02_Valid_2 (x : X_ref02_Valid_2) : St := St.ofList [(3, (.v (.sl 5 (.int .u8)) .s x.f3))]
def out_ref02_Valid_2 : Ex → List Nat | .ret => [2] | (.exit 0) => [] | _ => []
noncomputable def fuel_ref02_Valid_2 (x : X_ref02_Valid_2) : Nat := fuel64
noncomputable def lp_ref02_Valid : Loops := fun i R st K => match i with
  | 8 => match st 3, st 4, st 5, st 6, st 19, st 20, st 21, st 22 with
    | (.v (.sl 5 (.int .u8)) .s y3), (.v (.int .i64) .s y4), (.v (.int .i64) .s y5), (.v (.int .i64) .s y6), (.v (.int .i64) .s y19), (.v (.sl 5 (.int .u8)) .s y20), (.v (.int .i64) .s y21), (.v .bool .s y22) => loopN (B_ref02_Valid_8 (fun e3 e4 e5 e19 e20 e21 e22 => K (.exit 2) (St.ofList [(3, (.v (.sl 5 (.int .u8)) .s e3)), (4, (.v (.int .i64) .s e4)), (5, (.v (.int .i64) .s e5)), (19, (.v (.int .i64) .s e19)), (20, (.v (.sl 5 (.int .u8)) .s e20)), (21, (.v (.int .i64) .s e21)), (22, (.v .bool .s e22))]))) (fuel_ref02_Valid_8 ⟨y3, y4, y5, y6, y19, y20, y21, y22⟩) ⟨y3, y4, y5, y6, y19, y20, y21, y22⟩
    | _, _, _, _, _, _, _, _ => none
  | 2 => match st 3 with
    | (.v (.sl 5 (.int .u8)) .s y3) => loopN (B_ref02_Valid_2 (fun e2 => K .ret (St.ofList [(2, (.v .bool .s e2))])) (K (.exit 0) (St.ofList []))) (fuel_ref02_Valid_2 ⟨y3⟩) ⟨y3⟩
    | _ => none
  | _ => none
noncomputable def c_ref02_Valid_8 : Code := match loopAt 8 (body Try.f12.body) with | some c => c | none => .skip
theorem step_ref02_Valid_8 (R : Type) (K : Ex → St → Option R) (rec : St → Option R) (x : X_ref02_Valid_8) : evC (envOf gam_ref02_Valid Try.f12.ntmps fz_ref02_Valid lv_ref02_Valid) lp_ref02_Valid c_ref02_Valid_8 (S_ref02_Valid_8 x) (fun e st => match e with | .normal => rec (st.only [3, 4, 5, 6, 19, 20, 21, 22]) | e => K e (st.only (out_ref02_Valid_8 e))) = B_ref02_Valid_8 (fun e3 e4 e5 e19 e20 e21 e22 => K (.exit 2) (St.ofList [(3, (.v (.sl 5 (.int .u8)) .s e3)), (4, (.v (.int .i64) .s e4)), (5, (.v (.int .i64) .s e5)), (19, (.v (.int .i64) .s e19)), (20, (.v (.sl 5 (.int .u8)) .s e20)), (21, (.v (.int .i64) .s e21)), (22, (.v .bool .s e22))])) (fun x => rec (S_ref02_Valid_8 x)) x := by kernel_rfl
theorem ok_ref02_Valid_8 : LoopOk (envOf gam_ref02_Valid Try.f12.ntmps fz_ref02_Valid lv_ref02_Valid) lp_ref02_Valid c_ref02_Valid_8 := by
  refine loopOk_of (hd := [3, 4, 5, 6, 19, 20, 21, 22]) (out := out_ref02_Valid_8) (S := S_ref02_Valid_8) (fun _ K => B_ref02_Valid_8 (fun e3 e4 e5 e19 e20 e21 e22 => K (.exit 2) (St.ofList [(3, (.v (.sl 5 (.int .u8)) .s e3)), (4, (.v (.int .i64) .s e4)), (5, (.v (.int .i64) .s e5)), (19, (.v (.int .i64) .s e19)), (20, (.v (.sl 5 (.int .u8)) .s e20)), (21, (.v (.int .i64) .s e21)), (22, (.v .bool .s e22))]))) fuel_ref02_Valid_8 8 step_ref02_Valid_8 (fun x => by kernel_rfl) (by kernel_rfl) ?_
  intro R st K r h
  unfold lp_ref02_Valid at h
  simp only at h
  split at h
  · rename_i y3 y4 y5 y6 y19 y20 y21 y22 hy3 hy4 hy5 hy6 hy19 hy20 hy21 hy22
    refine ⟨⟨y3, y4, y5, y6, y19, y20, y21, y22⟩, ?_, h⟩
    show St.ofList [(3, st 3), (4, st 4), (5, st 5), (6, st 6), (19, st 19), (20, st 20), (21, st 21), (22, st 22)] = _
    rw [hy3, hy4, hy5, hy6, hy19, hy20, hy21, hy22]
    rfl
  · cases h
noncomputable def c_ref02_Valid_2 : Code := match loopAt 2 (body Try.f12.body) with | some c => c | none => .skip
theorem step_ref02_Valid_2 (R : Type) (K : Ex → St → Option R) (rec : St → Option R) (x : X_ref02_Valid_2) : evC (envOf gam_ref02_Valid Try.f12.ntmps fz_ref02_Valid lv_ref02_Valid) lp_ref02_Valid c_ref02_Valid_2 (S_ref02_Valid_2 x) (fun e st => match e with | .normal => rec (st.only [3]) | e => K e (st.only (out_ref02_Valid_2 e))) = B_ref02_Valid_2 (fun e2 => K .ret (St.ofList [(2, (.v .bool .s e2))])) (K (.exit 0) (St.ofList [])) (fun x => rec (S_ref02_Valid_2 x)) x := by kernel_rfl
theorem ok_ref02_Valid_2 : LoopOk (envOf gam_ref02_Valid Try.f12.ntmps fz_ref02_Valid lv_ref02_Valid) lp_ref02_Valid c_ref02_Valid_2 := by
  refine loopOk_of (hd := [3]) (out := out_ref02_Valid_2) (S := S_ref02_Valid_2) (fun _ K => B_ref02_Valid_2 (fun e2 => K .ret (St.ofList [(2, (.v .bool .s e2))])) (K (.exit 0) (St.ofList []))) fuel_ref02_Valid_2 2 step_ref02_Valid_2 (fun x => by kernel_rfl) (by kernel_rfl) ?_
  intro R st K r h
  unfold lp_ref02_Valid at h
  simp only at h
  split at h
  · rename_i y3 hy3
    refine ⟨⟨y3⟩, ?_, h⟩
    show St.ofList [(3, st 3)] = _
    rw [hy3]
    rfl
  · cases h
noncomputable def p_ref02_Valid {R : Type} (a0 : List UInt8) (K : Bool → Option R) : Option R :=
  cond (decide (List.length a0 ≤ most))
  (let v1 := nums a0
  loopN (B_ref02_Valid_2 (fun w2 => K w2) (K true)) (fuel_ref02_Valid_2 ⟨v1⟩) ⟨v1⟩) none
noncomputable def cs_ref02_Valid : CSpec := { ins := [(.val .str .s)], outs := [(.bool, .s)], fn := fun (d : (List UInt8) × Unit) K => p_ref02_Valid d.1 fun r0 => K ((r0, ()) : Bool × Unit) ((()) : Unit) }
theorem h_ref02_Valid : Holds Try.prog 12 cs_ref02_Valid := by
  refine holds_of (env := envOf gam_ref02_Valid Try.f12.ntmps fz_ref02_Valid lv_ref02_Valid) (fn := Try.f12) (code := body Try.f12.body) (rs := [(2, none)]) (lp := lp_ref02_Valid) mixed (envTyOk _ _ _ _) gamOk_ref02_Valid Try.func12 (by kernel_rfl) (by kernel_rfl) (by kernel_rfl) (by kernel_rfl) (by kernel_rfl) (loopsOk_of fun c hc => ?_) (by kernel_rfl) ?_
  · rw [show loopsL (body Try.f12.body) = [c_ref02_Valid_2, c_ref02_Valid_8] by kernel_rfl] at hc
    simp only [List.mem_cons, List.not_mem_nil, or_false] at hc
    rcases hc with rfl | rfl
    · exact ok_ref02_Valid_2
    · exact ok_ref02_Valid_8
  intro d R K res h
  have : evC (envOf gam_ref02_Valid Try.f12.ntmps fz_ref02_Valid lv_ref02_Valid) lp_ref02_Valid (body Try.f12.body) (St.start cs_ref02_Valid.ins d) (retK (envOf gam_ref02_Valid Try.f12.ntmps fz_ref02_Valid lv_ref02_Valid) cs_ref02_Valid.ins cs_ref02_Valid.outs [(2, none)] K) = cs_ref02_Valid.fn d K := by kernel_rfl
  rw [this]; exact h
-- f3 trammel/trammellaw02.UtfRight
noncomputable def fz_law02_UtfRight : Nat → Bool
  | _ => false
noncomputable def lv_law02_UtfRight : Nat → Option (List Nat)
  | _ => none
noncomputable def gam_law02_UtfRight : FuncId → Option CSpec
  | 10 => some cs_law02_awake
  | 11 => some cs_utf_Valid
  | 12 => some cs_ref02_Valid
  | _ => none
theorem gamOk_law02_UtfRight : EnvFn Try.prog (envOf gam_law02_UtfRight Try.f3.ntmps fz_law02_UtfRight lv_law02_UtfRight) := by
  intro f c h
  unfold envOf gam_law02_UtfRight at h
  simp only at h
  split at h <;> first | (cases h; done) | (cases h; exact h_law02_awake) | (cases h; exact h_utf_Valid) | (cases h; exact h_ref02_Valid)
noncomputable def p_law02_UtfRight {R : Type} (a0 : List UInt8) (K : Bool → Option R) : Option R :=
  p_law02_awake  fun r1 =>
  let v2 := !r1
  cond v2
  (K false)
  (let v3 := ((List.length a0 : Nat) : Int)
  let v4 := minI v3 (3000 : Int)
  cond (inR (0 : Int) v4 (List.length a0))
  (let v5 := rng a0 (0 : Int) v4
  p_utf_Valid v5 fun r6 =>
  p_ref02_Valid v5 fun r7 =>
  let v8 := r6 == r7
  K v8) none)
noncomputable def cs_law02_UtfRight : CSpec := { ins := [(.val .str .s)], outs := [(.bool, .s)], fn := fun (d : (List UInt8) × Unit) K => p_law02_UtfRight d.1 fun r0 => K ((r0, ()) : Bool × Unit) ((()) : Unit) }
theorem h_law02_UtfRight : Holds Try.prog 3 cs_law02_UtfRight := by
  refine holds_of (env := envOf gam_law02_UtfRight Try.f3.ntmps fz_law02_UtfRight lv_law02_UtfRight) (fn := Try.f3) (code := body Try.f3.body) (rs := [(2, none)]) (lp := lp0) mixed (envTyOk _ _ _ _) gamOk_law02_UtfRight Try.func3 (by kernel_rfl) (by kernel_rfl) (by kernel_rfl) (by kernel_rfl) (by kernel_rfl) (loopsOk_none (by kernel_rfl)) (by kernel_rfl) ?_
  intro d R K res h
  have : evC (envOf gam_law02_UtfRight Try.f3.ntmps fz_law02_UtfRight lv_law02_UtfRight) lp0 (body Try.f3.body) (St.start cs_law02_UtfRight.ins d) (retK (envOf gam_law02_UtfRight Try.f3.ntmps fz_law02_UtfRight lv_law02_UtfRight) cs_law02_UtfRight.ins cs_law02_UtfRight.outs [(2, none)] K) = cs_law02_UtfRight.fn d K := by kernel_rfl
  rw [this]; exact h
-- f4 trammel/trammellaw02.UtfJoined
noncomputable def fz_law02_UtfJoined : Nat → Bool
  | _ => false
noncomputable def lv_law02_UtfJoined : Nat → Option (List Nat)
  | _ => none
noncomputable def gam_law02_UtfJoined : FuncId → Option CSpec
  | 10 => some cs_law02_awake
  | 11 => some cs_utf_Valid
  | _ => none
theorem gamOk_law02_UtfJoined : EnvFn Try.prog (envOf gam_law02_UtfJoined Try.f4.ntmps fz_law02_UtfJoined lv_law02_UtfJoined) := by
  intro f c h
  unfold envOf gam_law02_UtfJoined at h
  simp only at h
  split at h <;> first | (cases h; done) | (cases h; exact h_law02_awake) | (cases h; exact h_utf_Valid)
noncomputable def p_law02_UtfJoined {R : Type} (a0 : List UInt8) (a1 : List UInt8) (K : Bool → Option R) : Option R :=
  p_law02_awake  fun r1 =>
  let v2 := !r1
  cond v2
  (K false)
  (let v3 := ((List.length a0 : Nat) : Int)
  let v4 := minI v3 (1000 : Int)
  cond (inR (0 : Int) v4 (List.length a0))
  (let v5 := rng a0 (0 : Int) v4
  let v6 := ((List.length a1 : Nat) : Int)
  let v7 := minI v6 (1000 : Int)
  cond (inR (0 : Int) v7 (List.length a1))
  (let v8 := rng a1 (0 : Int) v7
  p_utf_Valid v5 fun r9 =>
  p_utf_Valid v8 fun r10 =>
  cond (decide (v5.length + v8.length ≤ most))
  (let v11 := v5 ++ v8
  p_utf_Valid v11 fun r12 =>
  let v13 := !r9
  cond v13
  (K true)
  (let v14 := r10 == r12
  K v14)) none) none) none)
noncomputable def cs_law02_UtfJoined : CSpec := { ins := [(.val .str .s), (.val .str .s)], outs := [(.bool, .s)], fn := fun (d : (List UInt8) × (List UInt8) × Unit) K => p_law02_UtfJoined d.1 d.2.1 fun r0 => K ((r0, ()) : Bool × Unit) ((()) : Unit) }
theorem h_law02_UtfJoined : Holds Try.prog 4 cs_law02_UtfJoined := by
  refine holds_of (env := envOf gam_law02_UtfJoined Try.f4.ntmps fz_law02_UtfJoined lv_law02_UtfJoined) (fn := Try.f4) (code := body Try.f4.body) (rs := [(4, none)]) (lp := lp0) mixed (envTyOk _ _ _ _) gamOk_law02_UtfJoined Try.func4 (by kernel_rfl) (by kernel_rfl) (by kernel_rfl) (by kernel_rfl) (by kernel_rfl) (loopsOk_none (by kernel_rfl)) (by kernel_rfl) ?_
  intro d R K res h
  have : evC (envOf gam_law02_UtfJoined Try.f4.ntmps fz_law02_UtfJoined lv_law02_UtfJoined) lp0 (body Try.f4.body) (St.start cs_law02_UtfJoined.ins d) (retK (envOf gam_law02_UtfJoined Try.f4.ntmps fz_law02_UtfJoined lv_law02_UtfJoined) cs_law02_UtfJoined.ins cs_law02_UtfJoined.outs [(4, none)] K) = cs_law02_UtfJoined.fn d K := by kernel_rfl
  rw [this]; exact h
-- f30 trammel/sect.magic
noncomputable def fz_sect_magic : Nat → Bool
  | _ => false
noncomputable def lv_sect_magic : Nat → Option (List Nat)
  | _ => none
noncomputable def gam_sect_magic : FuncId → Option CSpec
  | _ => none
theorem gamOk_sect_magic : EnvFn Try.prog (envOf gam_sect_magic Try.f30.ntmps fz_sect_magic lv_sect_magic) := by
  intro f c h
  unfold envOf gam_sect_magic at h
  simp only at h
  cases h
noncomputable def p_sect_magic {R : Type}  (K : (List (Int)) → Option R) : Option R :=
  let v1 := List.set (List.set (List.set (List.set (List.set (List.set (List.set (List.set (List.replicate 8 (0 : Int)) 0 (0 : Int)) 1 (97 : Int)) 2 (115 : Int)) 3 (109 : Int)) 4 (1 : Int)) 5 (0 : Int)) 6 (0 : Int)) 7 (0 : Int)
  K v1
noncomputable def cs_sect_magic : CSpec := { ins := [], outs := [((.sl 5 (.int .u8)), (.o .s))], fn := fun (d : Unit) K => p_sect_magic  fun r0 => K ((r0, ()) : (List (Int)) × Unit) ((()) : Unit) }
theorem h_sect_magic : Holds Try.prog 30 cs_sect_magic := by
  refine holds_of (env := envOf gam_sect_magic Try.f30.ntmps fz_sect_magic lv_sect_magic) (fn := Try.f30) (code := body Try.f30.body) (rs := [(0, none)]) (lp := lp0) mixed (envTyOk _ _ _ _) gamOk_sect_magic Try.func30 (by kernel_rfl) (by kernel_rfl) (by kernel_rfl) (by kernel_rfl) (by kernel_rfl) (loopsOk_none (by kernel_rfl)) (by kernel_rfl) ?_
  intro d R K res h
  have : evC (envOf gam_sect_magic Try.f30.ntmps fz_sect_magic lv_sect_magic) lp0 (body Try.f30.body) (St.start cs_sect_magic.ins d) (retK (envOf gam_sect_magic Try.f30.ntmps fz_sect_magic lv_sect_magic) cs_sect_magic.ins cs_sect_magic.outs [(0, none)] K) = cs_sect_magic.fn d K := by kernel_rfl
  rw [this]; exact h
-- f44 slices.Index[[]int,int]
noncomputable def fz_slices_IndexInt : Nat → Bool
  | _ => false
noncomputable def lv_slices_IndexInt : Nat → Option (List Nat)
  | _ => none
noncomputable def gam_slices_IndexInt : FuncId → Option CSpec
  | _ => none
theorem gamOk_slices_IndexInt : EnvFn Try.prog (envOf gam_slices_IndexInt Try.f44.ntmps fz_slices_IndexInt lv_slices_IndexInt) := by
  intro f c h
  unfold envOf gam_slices_IndexInt at h
  simp only at h
  cases h
structure X_slices_IndexInt_2 where
  f0 : List (Int)
  f1 : Int
  f7 : Int
  f8 : Int

noncomputable def B_slices_IndexInt_2 {R : Type} (k_ret : Int → Option R) (k_exit_0 : Option R) (rec : X_slices_IndexInt_2 → Option R) (x : X_slices_IndexInt_2) : Option R :=
  let v1 := decide (x.f8 < x.f7)
  cond v1
  (cond (inB x.f8 (List.length x.f0))
  (let v2 := List.getD x.f0 x.f8.toNat (0 : Int)
  let v3 := x.f1 == v2
  cond v3
  (k_ret x.f8)
  (let v4 := IntKind.i64.wrap (x.f8 + (1 : Int))
  rec ⟨x.f0, x.f1, x.f7, v4⟩)) none)
  (k_exit_0)
noncomputable def S_slices_IndexInt_2 (x : X_slices_IndexInt_2) : St := St.ofList [(0, (.v (.sl 3 (.int .i64)) .s x.f0)), (1, (.v (.int .i64) .s x.f1)), (7, (.v (.int .i64) .s x.f7)), (8, (.v (.int .i64) .s x.f8))]
def out_slices_IndexInt_2 : Ex → List Nat | .ret => [4] | (.exit 0) => [] | _ => []
noncomputable def fuel_slices_IndexInt_2 (x : X_slices_IndexInt_2) : Nat := fuel64
noncomputable def lp_slices_IndexInt : Loops := fun i R st K => match i with
  | 2 => match st 0, st 1, st 7, st 8 with
    | (.v (.sl 3 (.int .i64)) .s y0), (.v (.int .i64) .s y1), (.v (.int .i64) .s y7), (.v (.int .i64) .s y8) => loopN (B_slices_IndexInt_2 (fun e4 => K .ret (St.ofList [(4, (.v (.int .i64) .s e4))])) (K (.exit 0) (St.ofList []))) (fuel_slices_IndexInt_2 ⟨y0, y1, y7, y8⟩) ⟨y0, y1, y7, y8⟩
    | _, _, _, _ => none
  | _ => none
noncomputable def c_slices_IndexInt_2 : Code := match loopAt 2 (body Try.f44.body) with | some c => c | none => .skip
theorem step_slices_IndexInt_2 (R : Type) (K : Ex → St → Option R) (rec : St → Option R) (x : X_slices_IndexInt_2) : evC (envOf gam_slices_IndexInt Try.f44.ntmps fz_slices_IndexInt lv_slices_IndexInt) lp_slices_IndexInt c_slices_IndexInt_2 (S_slices_IndexInt_2 x) (fun e st => match e with | .normal => rec (st.only [0, 1, 7, 8]) | e => K e (st.only (out_slices_IndexInt_2 e))) = B_slices_IndexInt_2 (fun e4 => K .ret (St.ofList [(4, (.v (.int .i64) .s e4))])) (K (.exit 0) (St.ofList [])) (fun x => rec (S_slices_IndexInt_2 x)) x := by kernel_rfl
theorem ok_slices_IndexInt_2 : LoopOk (envOf gam_slices_IndexInt Try.f44.ntmps fz_slices_IndexInt lv_slices_IndexInt) lp_slices_IndexInt c_slices_IndexInt_2 := by
  refine loopOk_of (hd := [0, 1, 7, 8]) (out := out_slices_IndexInt_2) (S := S_slices_IndexInt_2) (fun _ K => B_slices_IndexInt_2 (fun e4 => K .ret (St.ofList [(4, (.v (.int .i64) .s e4))])) (K (.exit 0) (St.ofList []))) fuel_slices_IndexInt_2 2 step_slices_IndexInt_2 (fun x => by kernel_rfl) (by kernel_rfl) ?_
  intro R st K r h
  unfold lp_slices_IndexInt at h
  simp only at h
  split at h
  · rename_i y0 y1 y7 y8 hy0 hy1 hy7 hy8
    refine ⟨⟨y0, y1, y7, y8⟩, ?_, h⟩
    show St.ofList [(0, st 0), (1, st 1), (7, st 7), (8, st 8)] = _
    rw [hy0, hy1, hy7, hy8]
    rfl
  · cases h
noncomputable def p_slices_IndexInt {R : Type} (a0 : List (Int)) (a1 : Int) (K : Int → Option R) : Option R :=
  let v1 := ((List.length a0 : Nat) : Int)
  loopN (B_slices_IndexInt_2 (fun w2 => K w2) (K (-1 : Int))) (fuel_slices_IndexInt_2 ⟨a0, a1, v1, (0 : Int)⟩) ⟨a0, a1, v1, (0 : Int)⟩
noncomputable def cs_slices_IndexInt : CSpec := { ins := [(.val (.sl 3 (.int .i64)) .s), (.val (.int .i64) .s)], outs := [((.int .i64), .s)], fn := fun (d : (List (Int)) × Int × Unit) K => p_slices_IndexInt d.1 d.2.1 fun r0 => K ((r0, ()) : Int × Unit) ((()) : Unit) }
theorem h_slices_IndexInt : Holds Try.prog 44 cs_slices_IndexInt := by
  refine holds_of (env := envOf gam_slices_IndexInt Try.f44.ntmps fz_slices_IndexInt lv_slices_IndexInt) (fn := Try.f44) (code := body Try.f44.body) (rs := [(4, none)]) (lp := lp_slices_IndexInt) mixed (envTyOk _ _ _ _) gamOk_slices_IndexInt Try.func44 (by kernel_rfl) (by kernel_rfl) (by kernel_rfl) (by kernel_rfl) (by kernel_rfl) (loopsOk_of fun c hc => ?_) (by kernel_rfl) ?_
  · rw [show loopsL (body Try.f44.body) = [c_slices_IndexInt_2] by kernel_rfl] at hc
    simp only [List.mem_cons, List.not_mem_nil, or_false] at hc
    rcases hc with rfl
    · exact ok_slices_IndexInt_2
  intro d R K res h
  have : evC (envOf gam_slices_IndexInt Try.f44.ntmps fz_slices_IndexInt lv_slices_IndexInt) lp_slices_IndexInt (body Try.f44.body) (St.start cs_slices_IndexInt.ins d) (retK (envOf gam_slices_IndexInt Try.f44.ntmps fz_slices_IndexInt lv_slices_IndexInt) cs_slices_IndexInt.ins cs_slices_IndexInt.outs [(4, none)] K) = cs_slices_IndexInt.fn d K := by kernel_rfl
  rw [this]; exact h
-- f39 trammel/sect.rank
noncomputable def fz_sect_rank : Nat → Bool
  | _ => false
noncomputable def lv_sect_rank : Nat → Option (List Nat)
  | _ => none
noncomputable def gam_sect_rank : FuncId → Option CSpec
  | 44 => some cs_slices_IndexInt
  | _ => none
theorem gamOk_sect_rank : EnvFn Try.prog (envOf gam_sect_rank Try.f39.ntmps fz_sect_rank lv_sect_rank) := by
  intro f c h
  unfold envOf gam_sect_rank at h
  simp only at h
  split at h <;> first | (cases h; done) | (cases h; exact h_slices_IndexInt)
noncomputable def p_sect_rank {R : Type} (a0 : Int) (K : Int → Option R) : Option R :=
  let v1 := a0 == (0 : Int)
  cond v1
  (K (0 : Int))
  (let v2 := List.set (List.set (List.set (List.set (List.set (List.set (List.set (List.set (List.set (List.set (List.set (List.set (List.replicate 12 (0 : Int)) 0 (1 : Int)) 1 (2 : Int)) 2 (3 : Int)) 3 (4 : Int)) 4 (5 : Int)) 5 (6 : Int)) 6 (7 : Int)) 7 (8 : Int)) 8 (9 : Int)) 9 (12 : Int)) 10 (10 : Int)) 11 (11 : Int)
  p_slices_IndexInt v2 a0 fun r3 =>
  let v4 := decide (r3 < (0 : Int))
  cond v4
  (K (-1 : Int))
  (let v5 := IntKind.i64.wrap (r3 + (1 : Int))
  K v5))
noncomputable def cs_sect_rank : CSpec := { ins := [(.val (.int .i64) .s)], outs := [((.int .i64), .s)], fn := fun (d : Int × Unit) K => p_sect_rank d.1 fun r0 => K ((r0, ()) : Int × Unit) ((()) : Unit) }
theorem h_sect_rank : Holds Try.prog 39 cs_sect_rank := by
  refine holds_of (env := envOf gam_sect_rank Try.f39.ntmps fz_sect_rank lv_sect_rank) (fn := Try.f39) (code := body Try.f39.body) (rs := [(2, none)]) (lp := lp0) mixed (envTyOk _ _ _ _) gamOk_sect_rank Try.func39 (by kernel_rfl) (by kernel_rfl) (by kernel_rfl) (by kernel_rfl) (by kernel_rfl) (loopsOk_none (by kernel_rfl)) (by kernel_rfl) ?_
  intro d R K res h
  have : evC (envOf gam_sect_rank Try.f39.ntmps fz_sect_rank lv_sect_rank) lp0 (body Try.f39.body) (St.start cs_sect_rank.ins d) (retK (envOf gam_sect_rank Try.f39.ntmps fz_sect_rank lv_sect_rank) cs_sect_rank.ins cs_sect_rank.outs [(2, none)] K) = cs_sect_rank.fn d K := by kernel_rfl
  rw [this]; exact h
-- f31 (*trammel/sect.order).next
noncomputable def fz_sect_order_next : Nat → Bool
  | _ => false
noncomputable def lv_sect_order_next : Nat → Option (List Nat)
  | _ => none
noncomputable def gam_sect_order_next : FuncId → Option CSpec
  | 39 => some cs_sect_rank
  | _ => none
theorem gamOk_sect_order_next : EnvFn Try.prog (envOf gam_sect_order_next Try.f31.ntmps fz_sect_order_next lv_sect_order_next) := by
  intro f c h
  unfold envOf gam_sect_order_next at h
  simp only at h
  split at h <;> first | (cases h; done) | (cases h; exact h_sect_rank)
noncomputable def p_sect_order_next {R : Type} (a0 : (Int) × Unit) (a1 : Int) (K : Bool → ((Int) × Unit) → Option R) : Option R :=
  p_sect_rank a1 fun r1 =>
  let v2 := r1 == (0 : Int)
  cond v2
  (K true a0)
  (let v3 := decide (r1 ≤ a0.1)
  cond v3
  (K false a0)
  (K true (r1, a0.2)))
noncomputable def cs_sect_order_next : CSpec := { ins := [(.ref (.pair (.int .i64) .unit) .s .s), (.val (.int .i64) .s)], outs := [(.bool, .s)], fn := fun (d : ((Int) × Unit) × Int × Unit) K => p_sect_order_next d.1 d.2.1 fun r0 b0 => K ((r0, ()) : Bool × Unit) ((b0, ()) : ((Int) × Unit) × Unit) }
theorem h_sect_order_next : Holds Try.prog 31 cs_sect_order_next := by
  refine holds_of (env := envOf gam_sect_order_next Try.f31.ntmps fz_sect_order_next lv_sect_order_next) (fn := Try.f31) (code := body Try.f31.body) (rs := [(4, none)]) (lp := lp0) mixed (envTyOk _ _ _ _) gamOk_sect_order_next Try.func31 (by kernel_rfl) (by kernel_rfl) (by kernel_rfl) (by kernel_rfl) (by kernel_rfl) (loopsOk_none (by kernel_rfl)) (by kernel_rfl) ?_
  intro d R K res h
  have : evC (envOf gam_sect_order_next Try.f31.ntmps fz_sect_order_next lv_sect_order_next) lp0 (body Try.f31.body) (St.start cs_sect_order_next.ins d) (retK (envOf gam_sect_order_next Try.f31.ntmps fz_sect_order_next lv_sect_order_next) cs_sect_order_next.ins cs_sect_order_next.outs [(4, none)] K) = cs_sect_order_next.fn d K := by kernel_rfl
  rw [this]; exact h
-- f33 slices.Clone[[]byte,byte]
noncomputable def fz_slices_CloneU8 : Nat → Bool
  | _ => false
noncomputable def lv_slices_CloneU8 : Nat → Option (List Nat)
  | _ => none
noncomputable def gam_slices_CloneU8 : FuncId → Option CSpec
  | _ => none
theorem gamOk_slices_CloneU8 : EnvFn Try.prog (envOf gam_slices_CloneU8 Try.f33.ntmps fz_slices_CloneU8 lv_slices_CloneU8) := by
  intro f c h
  unfold envOf gam_slices_CloneU8 at h
  simp only at h
  cases h
noncomputable def p_slices_CloneU8 {R : Type} (a0 : List (Int)) (K : (List (Int)) → Option R) : Option R :=
  cond (List.isEmpty a0)
  (both
  (K ([] : List (Int)))
  (let v1 := List.replicate 0 (0 : Int)
  cond (decide (List.length v1 + List.length a0 ≤ most))
  (let v2 := v1 ++ a0
  K v2) none))
  (let v3 := List.replicate 0 (0 : Int)
  cond (decide (List.length v3 + List.length a0 ≤ most))
  (let v4 := v3 ++ a0
  K v4) none)
noncomputable def cs_slices_CloneU8 : CSpec := { ins := [(.val (.sl 5 (.int .u8)) .s)], outs := [((.sl 5 (.int .u8)), (.o .s))], fn := fun (d : (List (Int)) × Unit) K => p_slices_CloneU8 d.1 fun r0 => K ((r0, ()) : (List (Int)) × Unit) ((()) : Unit) }
theorem h_slices_CloneU8 : Holds Try.prog 33 cs_slices_CloneU8 := by
  refine holds_of (env := envOf gam_slices_CloneU8 Try.f33.ntmps fz_slices_CloneU8 lv_slices_CloneU8) (fn := Try.f33) (code := body Try.f33.body) (rs := [(2, none)]) (lp := lp0) mixed (envTyOk _ _ _ _) gamOk_slices_CloneU8 Try.func33 (by kernel_rfl) (by kernel_rfl) (by kernel_rfl) (by kernel_rfl) (by kernel_rfl) (loopsOk_none (by kernel_rfl)) (by kernel_rfl) ?_
  intro d R K res h
  have : evC (envOf gam_slices_CloneU8 Try.f33.ntmps fz_slices_CloneU8 lv_slices_CloneU8) lp0 (body Try.f33.body) (St.start cs_slices_CloneU8.ins d) (retK (envOf gam_slices_CloneU8 Try.f33.ntmps fz_slices_CloneU8 lv_slices_CloneU8) cs_slices_CloneU8.ins cs_slices_CloneU8.outs [(2, none)] K) = cs_slices_CloneU8.fn d K := by kernel_rfl
  rw [this]; exact h
-- f36 trammel/leb.PutU
noncomputable def fz_leb_PutU : Nat → Bool
  | _ => false
noncomputable def lv_leb_PutU : Nat → Option (List Nat)
  | _ => none
noncomputable def gam_leb_PutU : FuncId → Option CSpec
  | 33 => some cs_slices_CloneU8
  | _ => none
theorem gamOk_leb_PutU : EnvFn Try.prog (envOf gam_leb_PutU Try.f36.ntmps fz_leb_PutU lv_leb_PutU) := by
  intro f c h
  unfold envOf gam_leb_PutU at h
  simp only at h
  split at h <;> first | (cases h; done) | (cases h; exact h_slices_CloneU8)
structure X_leb_PutU_2 where
  f1 : Int
  f5 : List (Int)

noncomputable def B_leb_PutU_2 {R : Type} (k_exit_0 : Int → (List (Int)) → Option R) (rec : X_leb_PutU_2 → Option R) (x : X_leb_PutU_2) : Option R :=
  let v1 := decide (x.f1 ≥ (128 : Int))
  cond v1
  (let v2 := IntKind.u8.wrap x.f1
  let v3 := IntKind.u8.wrap ((BitVec.ofInt IntKind.u8.bits v2 ||| BitVec.ofInt IntKind.u8.bits (128 : Int)).toNat)
  let v4 := List.set (List.replicate 1 (0 : Int)) 0 v3
  cond (decide (List.length x.f5 + List.length v4 ≤ most))
  (let v5 := x.f5 ++ v4
  cond (decide (0 ≤ (7 : Int)))
  (let v6 := shrI .u64 x.f1 (7 : Int)
  rec ⟨v6, v5⟩) none) none)
  (k_exit_0 x.f1 x.f5)
noncomputable def S_leb_PutU_2 (x : X_leb_PutU_2) : St := St.ofList [(1, (.v (.int .u64) .s x.f1)), (5, (.v (.sl 5 (.int .u8)) (.o .s) x.f5))]
def out_leb_PutU_2 : Ex → List Nat | (.exit 0) => [1, 5] | _ => []
noncomputable def fuel_leb_PutU_2 (x : X_leb_PutU_2) : Nat := fuel64
noncomputable def lp_leb_PutU : Loops := fun i R st K => match i with
  | 2 => match st 1, st 5 with
    | (.v (.int .u64) .s y1), (.v (.sl 5 (.int .u8)) (.o .s) y5) => loopN (B_leb_PutU_2 (fun e1 e5 => K (.exit 0) (St.ofList [(1, (.v (.int .u64) .s e1)), (5, (.v (.sl 5 (.int .u8)) (.o .s) e5))]))) (fuel_leb_PutU_2 ⟨y1, y5⟩) ⟨y1, y5⟩
    | _, _ => none
  | _ => none
noncomputable def c_leb_PutU_2 : Code := match loopAt 2 (body Try.f36.body) with | some c => c | none => .skip
theorem step_leb_PutU_2 (R : Type) (K : Ex → St → Option R) (rec : St → Option R) (x : X_leb_PutU_2) : evC (envOf gam_leb_PutU Try.f36.ntmps fz_leb_PutU lv_leb_PutU) lp_leb_PutU c_leb_PutU_2 (S_leb_PutU_2 x) (fun e st => match e with | .normal => rec (st.only [1, 5]) | e => K e (st.only (out_leb_PutU_2 e))) = B_leb_PutU_2 (fun e1 e5 => K (.exit 0) (St.ofList [(1, (.v (.int .u64) .s e1)), (5, (.v (.sl 5 (.int .u8)) (.o .s) e5))])) (fun x => rec (S_leb_PutU_2 x)) x := by kernel_rfl
theorem ok_leb_PutU_2 : LoopOk (envOf gam_leb_PutU Try.f36.ntmps fz_leb_PutU lv_leb_PutU) lp_leb_PutU c_leb_PutU_2 := by
  refine loopOk_of (hd := [1, 5]) (out := out_leb_PutU_2) (S := S_leb_PutU_2) (fun _ K => B_leb_PutU_2 (fun e1 e5 => K (.exit 0) (St.ofList [(1, (.v (.int .u64) .s e1)), (5, (.v (.sl 5 (.int .u8)) (.o .s) e5))]))) fuel_leb_PutU_2 2 step_leb_PutU_2 (fun x => by kernel_rfl) (by kernel_rfl) ?_
  intro R st K r h
  unfold lp_leb_PutU at h
  simp only at h
  split at h
  · rename_i y1 y5 hy1 hy5
    refine ⟨⟨y1, y5⟩, ?_, h⟩
    show St.ofList [(1, st 1), (5, st 5)] = _
    rw [hy1, hy5]
    rfl
  · cases h
noncomputable def p_leb_PutU {R : Type} (a0 : List (Int)) (a1 : Int) (K : (List (Int)) → Option R) : Option R :=
  p_slices_CloneU8 a0 fun r1 =>
  loopN (B_leb_PutU_2 (fun w2 w3 => let v4 := IntKind.u8.wrap w2
  let v5 := List.set (List.replicate 1 (0 : Int)) 0 v4
  cond (decide (List.length w3 + List.length v5 ≤ most))
  (let v6 := w3 ++ v5
  K v6) none)) (fuel_leb_PutU_2 ⟨a1, r1⟩) ⟨a1, r1⟩
noncomputable def cs_leb_PutU : CSpec := { ins := [(.val (.sl 5 (.int .u8)) .s), (.val (.int .u64) .s)], outs := [((.sl 5 (.int .u8)), (.o .s))], fn := fun (d : (List (Int)) × Int × Unit) K => p_leb_PutU d.1 d.2.1 fun r0 => K ((r0, ()) : (List (Int)) × Unit) ((()) : Unit) }
theorem h_leb_PutU : Holds Try.prog 36 cs_leb_PutU := by
  refine holds_of (env := envOf gam_leb_PutU Try.f36.ntmps fz_leb_PutU lv_leb_PutU) (fn := Try.f36) (code := body Try.f36.body) (rs := [(4, none)]) (lp := lp_leb_PutU) mixed (envTyOk _ _ _ _) gamOk_leb_PutU Try.func36 (by kernel_rfl) (by kernel_rfl) (by kernel_rfl) (by kernel_rfl) (by kernel_rfl) (loopsOk_of fun c hc => ?_) (by kernel_rfl) ?_
  · rw [show loopsL (body Try.f36.body) = [c_leb_PutU_2] by kernel_rfl] at hc
    simp only [List.mem_cons, List.not_mem_nil, or_false] at hc
    rcases hc with rfl
    · exact ok_leb_PutU_2
  intro d R K res h
  have : evC (envOf gam_leb_PutU Try.f36.ntmps fz_leb_PutU lv_leb_PutU) lp_leb_PutU (body Try.f36.body) (St.start cs_leb_PutU.ins d) (retK (envOf gam_leb_PutU Try.f36.ntmps fz_leb_PutU lv_leb_PutU) cs_leb_PutU.ins cs_leb_PutU.outs [(4, none)] K) = cs_leb_PutU.fn d K := by kernel_rfl
  rw [this]; exact h
-- f19 trammel/sect.Join
noncomputable def fz_sect_Join : Nat → Bool
  | _ => false
noncomputable def lv_sect_Join : Nat → Option (List Nat)
  | _ => none
noncomputable def gam_sect_Join : FuncId → Option CSpec
  | 30 => some cs_sect_magic
  | 31 => some cs_sect_order_next
  | 36 => some cs_leb_PutU
  | _ => none
theorem gamOk_sect_Join : EnvFn Try.prog (envOf gam_sect_Join Try.f19.ntmps fz_sect_Join lv_sect_Join) := by
  intro f c h
  unfold envOf gam_sect_Join at h
  simp only at h
  split at h <;> first | (cases h; done) | (cases h; exact h_sect_magic) | (cases h; exact h_sect_order_next) | (cases h; exact h_leb_PutU)
structure X_sect_Join_10 where
  f4 : List (Int)
  f22 : List ((Int) × (List (Int)) × Unit)
  f23 : Int
  f24 : Int

noncomputable def B_sect_Join_10 {R : Type} (k_ret : (List (Int)) → Int → Option R) (k_exit_2 : (List (Int)) → Option R) (rec : X_sect_Join_10 → Option R) (x : X_sect_Join_10) : Option R :=
  let v1 := decide (x.f24 < x.f23)
  cond v1
  (cond (inB x.f24 (List.length x.f22))
  (let v2 := List.getD x.f22 x.f24.toNat ((0 : Int), (([] : List (Int)), ()))
  let v3 := ((List.length v2.2.1 : Nat) : Int)
  let v4 := decide (v3 > (65536 : Int))
  cond v4
  (k_ret ([] : List (Int)) (4 : Int))
  (both
  (let v5 := IntKind.u8.wrap v2.1
  both
  (let v6 := List.set (List.replicate 1 (0 : Int)) 0 v5
  both
  (cond (decide (List.length x.f4 + List.length v6 ≤ most))
  (let v7 := x.f4 ++ v6
  both
  (let v8 := ((List.length v2.2.1 : Nat) : Int)
  let v9 := IntKind.u64.wrap v8
  both
  (p_leb_PutU v7 v9 fun r10 =>
  cond (decide (List.length r10 + List.length v2.2.1 ≤ most))
  (let v11 := r10 ++ v2.2.1
  let v12 := ((List.length v11 : Nat) : Int)
  let v13 := decide (v12 > (65536 : Int))
  cond v13
  (k_ret ([] : List (Int)) (4 : Int))
  (let v14 := IntKind.i64.wrap (x.f24 + (1 : Int))
  rec ⟨v11, x.f22, x.f23, v14⟩)) none)
  (p_leb_PutU v7 v9 fun r15 =>
  cond (decide (List.length r15 + List.length v2.2.1 ≤ most))
  (let v16 := r15 ++ v2.2.1
  let v17 := ((List.length v16 : Nat) : Int)
  let v18 := decide (v17 > (65536 : Int))
  cond v18
  (k_ret ([] : List (Int)) (4 : Int))
  (let v19 := IntKind.i64.wrap (x.f24 + (1 : Int))
  rec ⟨v16, x.f22, x.f23, v19⟩)) none))
  (let v20 := ((List.length v2.2.1 : Nat) : Int)
  let v21 := IntKind.u64.wrap v20
  p_leb_PutU v7 v21 fun r22 =>
  cond (decide (List.length r22 + List.length v2.2.1 ≤ most))
  (let v23 := r22 ++ v2.2.1
  let v24 := ((List.length v23 : Nat) : Int)
  let v25 := decide (v24 > (65536 : Int))
  cond v25
  (k_ret ([] : List (Int)) (4 : Int))
  (let v26 := IntKind.i64.wrap (x.f24 + (1 : Int))
  rec ⟨v23, x.f22, x.f23, v26⟩)) none)) none)
  (both
  (let v27 := ((List.length v2.2.1 : Nat) : Int)
  let v28 := IntKind.u64.wrap v27
  both
  (cond (decide (List.length x.f4 + List.length v6 ≤ most))
  (let v29 := x.f4 ++ v6
  both
  (p_leb_PutU v29 v28 fun r30 =>
  cond (decide (List.length r30 + List.length v2.2.1 ≤ most))
  (let v31 := r30 ++ v2.2.1
  let v32 := ((List.length v31 : Nat) : Int)
  let v33 := decide (v32 > (65536 : Int))
  cond v33
  (k_ret ([] : List (Int)) (4 : Int))
  (let v34 := IntKind.i64.wrap (x.f24 + (1 : Int))
  rec ⟨v31, x.f22, x.f23, v34⟩)) none)
  (p_leb_PutU v29 v28 fun r35 =>
  cond (decide (List.length r35 + List.length v2.2.1 ≤ most))
  (let v36 := r35 ++ v2.2.1
  let v37 := ((List.length v36 : Nat) : Int)
  let v38 := decide (v37 > (65536 : Int))
  cond v38
  (k_ret ([] : List (Int)) (4 : Int))
  (let v39 := IntKind.i64.wrap (x.f24 + (1 : Int))
  rec ⟨v36, x.f22, x.f23, v39⟩)) none)) none)
  (cond (decide (List.length x.f4 + List.length v6 ≤ most))
  (let v40 := x.f4 ++ v6
  p_leb_PutU v40 v28 fun r41 =>
  cond (decide (List.length r41 + List.length v2.2.1 ≤ most))
  (let v42 := r41 ++ v2.2.1
  let v43 := ((List.length v42 : Nat) : Int)
  let v44 := decide (v43 > (65536 : Int))
  cond v44
  (k_ret ([] : List (Int)) (4 : Int))
  (let v45 := IntKind.i64.wrap (x.f24 + (1 : Int))
  rec ⟨v42, x.f22, x.f23, v45⟩)) none) none))
  (both
  (cond (decide (List.length x.f4 + List.length v6 ≤ most))
  (let v46 := x.f4 ++ v6
  let v47 := ((List.length v2.2.1 : Nat) : Int)
  let v48 := IntKind.u64.wrap v47
  p_leb_PutU v46 v48 fun r49 =>
  cond (decide (List.length r49 + List.length v2.2.1 ≤ most))
  (let v50 := r49 ++ v2.2.1
  let v51 := ((List.length v50 : Nat) : Int)
  let v52 := decide (v51 > (65536 : Int))
  cond v52
  (k_ret ([] : List (Int)) (4 : Int))
  (let v53 := IntKind.i64.wrap (x.f24 + (1 : Int))
  rec ⟨v50, x.f22, x.f23, v53⟩)) none) none)
  (let v54 := ((List.length v2.2.1 : Nat) : Int)
  let v55 := IntKind.u64.wrap v54
  cond (decide (List.length x.f4 + List.length v6 ≤ most))
  (let v56 := x.f4 ++ v6
  p_leb_PutU v56 v55 fun r57 =>
  cond (decide (List.length r57 + List.length v2.2.1 ≤ most))
  (let v58 := r57 ++ v2.2.1
  let v59 := ((List.length v58 : Nat) : Int)
  let v60 := decide (v59 > (65536 : Int))
  cond v60
  (k_ret ([] : List (Int)) (4 : Int))
  (let v61 := IntKind.i64.wrap (x.f24 + (1 : Int))
  rec ⟨v58, x.f22, x.f23, v61⟩)) none) none))))
  (both
  (let v62 := ((List.length v2.2.1 : Nat) : Int)
  let v63 := IntKind.u64.wrap v62
  both
  (let v64 := List.set (List.replicate 1 (0 : Int)) 0 v5
  both
  (cond (decide (List.length x.f4 + List.length v64 ≤ most))
  (let v65 := x.f4 ++ v64
  both
  (p_leb_PutU v65 v63 fun r66 =>
  cond (decide (List.length r66 + List.length v2.2.1 ≤ most))
  (let v67 := r66 ++ v2.2.1
  let v68 := ((List.length v67 : Nat) : Int)
  let v69 := decide (v68 > (65536 : Int))
  cond v69
  (k_ret ([] : List (Int)) (4 : Int))
  (let v70 := IntKind.i64.wrap (x.f24 + (1 : Int))
  rec ⟨v67, x.f22, x.f23, v70⟩)) none)
  (p_leb_PutU v65 v63 fun r71 =>
  cond (decide (List.length r71 + List.length v2.2.1 ≤ most))
  (let v72 := r71 ++ v2.2.1
  let v73 := ((List.length v72 : Nat) : Int)
  let v74 := decide (v73 > (65536 : Int))
  cond v74
  (k_ret ([] : List (Int)) (4 : Int))
  (let v75 := IntKind.i64.wrap (x.f24 + (1 : Int))
  rec ⟨v72, x.f22, x.f23, v75⟩)) none)) none)
  (cond (decide (List.length x.f4 + List.length v64 ≤ most))
  (let v76 := x.f4 ++ v64
  p_leb_PutU v76 v63 fun r77 =>
  cond (decide (List.length r77 + List.length v2.2.1 ≤ most))
  (let v78 := r77 ++ v2.2.1
  let v79 := ((List.length v78 : Nat) : Int)
  let v80 := decide (v79 > (65536 : Int))
  cond v80
  (k_ret ([] : List (Int)) (4 : Int))
  (let v81 := IntKind.i64.wrap (x.f24 + (1 : Int))
  rec ⟨v78, x.f22, x.f23, v81⟩)) none) none))
  (let v82 := List.set (List.replicate 1 (0 : Int)) 0 v5
  cond (decide (List.length x.f4 + List.length v82 ≤ most))
  (let v83 := x.f4 ++ v82
  p_leb_PutU v83 v63 fun r84 =>
  cond (decide (List.length r84 + List.length v2.2.1 ≤ most))
  (let v85 := r84 ++ v2.2.1
  let v86 := ((List.length v85 : Nat) : Int)
  let v87 := decide (v86 > (65536 : Int))
  cond v87
  (k_ret ([] : List (Int)) (4 : Int))
  (let v88 := IntKind.i64.wrap (x.f24 + (1 : Int))
  rec ⟨v85, x.f22, x.f23, v88⟩)) none) none))
  (both
  (let v89 := List.set (List.replicate 1 (0 : Int)) 0 v5
  both
  (cond (decide (List.length x.f4 + List.length v89 ≤ most))
  (let v90 := x.f4 ++ v89
  let v91 := ((List.length v2.2.1 : Nat) : Int)
  let v92 := IntKind.u64.wrap v91
  p_leb_PutU v90 v92 fun r93 =>
  cond (decide (List.length r93 + List.length v2.2.1 ≤ most))
  (let v94 := r93 ++ v2.2.1
  let v95 := ((List.length v94 : Nat) : Int)
  let v96 := decide (v95 > (65536 : Int))
  cond v96
  (k_ret ([] : List (Int)) (4 : Int))
  (let v97 := IntKind.i64.wrap (x.f24 + (1 : Int))
  rec ⟨v94, x.f22, x.f23, v97⟩)) none) none)
  (let v98 := ((List.length v2.2.1 : Nat) : Int)
  let v99 := IntKind.u64.wrap v98
  cond (decide (List.length x.f4 + List.length v89 ≤ most))
  (let v100 := x.f4 ++ v89
  p_leb_PutU v100 v99 fun r101 =>
  cond (decide (List.length r101 + List.length v2.2.1 ≤ most))
  (let v102 := r101 ++ v2.2.1
  let v103 := ((List.length v102 : Nat) : Int)
  let v104 := decide (v103 > (65536 : Int))
  cond v104
  (k_ret ([] : List (Int)) (4 : Int))
  (let v105 := IntKind.i64.wrap (x.f24 + (1 : Int))
  rec ⟨v102, x.f22, x.f23, v105⟩)) none) none))
  (let v106 := ((List.length v2.2.1 : Nat) : Int)
  let v107 := IntKind.u64.wrap v106
  let v108 := List.set (List.replicate 1 (0 : Int)) 0 v5
  cond (decide (List.length x.f4 + List.length v108 ≤ most))
  (let v109 := x.f4 ++ v108
  p_leb_PutU v109 v107 fun r110 =>
  cond (decide (List.length r110 + List.length v2.2.1 ≤ most))
  (let v111 := r110 ++ v2.2.1
  let v112 := ((List.length v111 : Nat) : Int)
  let v113 := decide (v112 > (65536 : Int))
  cond v113
  (k_ret ([] : List (Int)) (4 : Int))
  (let v114 := IntKind.i64.wrap (x.f24 + (1 : Int))
  rec ⟨v111, x.f22, x.f23, v114⟩)) none) none))))
  (both
  (let v115 := ((List.length v2.2.1 : Nat) : Int)
  let v116 := IntKind.u64.wrap v115
  both
  (let v117 := IntKind.u8.wrap v2.1
  both
  (let v118 := List.set (List.replicate 1 (0 : Int)) 0 v117
  both
  (cond (decide (List.length x.f4 + List.length v118 ≤ most))
  (let v119 := x.f4 ++ v118
  both
  (p_leb_PutU v119 v116 fun r120 =>
  cond (decide (List.length r120 + List.length v2.2.1 ≤ most))
  (let v121 := r120 ++ v2.2.1
  let v122 := ((List.length v121 : Nat) : Int)
  let v123 := decide (v122 > (65536 : Int))
  cond v123
  (k_ret ([] : List (Int)) (4 : Int))
  (let v124 := IntKind.i64.wrap (x.f24 + (1 : Int))
  rec ⟨v121, x.f22, x.f23, v124⟩)) none)
  (p_leb_PutU v119 v116 fun r125 =>
  cond (decide (List.length r125 + List.length v2.2.1 ≤ most))
  (let v126 := r125 ++ v2.2.1
  let v127 := ((List.length v126 : Nat) : Int)
  let v128 := decide (v127 > (65536 : Int))
  cond v128
  (k_ret ([] : List (Int)) (4 : Int))
  (let v129 := IntKind.i64.wrap (x.f24 + (1 : Int))
  rec ⟨v126, x.f22, x.f23, v129⟩)) none)) none)
  (cond (decide (List.length x.f4 + List.length v118 ≤ most))
  (let v130 := x.f4 ++ v118
  p_leb_PutU v130 v116 fun r131 =>
  cond (decide (List.length r131 + List.length v2.2.1 ≤ most))
  (let v132 := r131 ++ v2.2.1
  let v133 := ((List.length v132 : Nat) : Int)
  let v134 := decide (v133 > (65536 : Int))
  cond v134
  (k_ret ([] : List (Int)) (4 : Int))
  (let v135 := IntKind.i64.wrap (x.f24 + (1 : Int))
  rec ⟨v132, x.f22, x.f23, v135⟩)) none) none))
  (let v136 := List.set (List.replicate 1 (0 : Int)) 0 v117
  cond (decide (List.length x.f4 + List.length v136 ≤ most))
  (let v137 := x.f4 ++ v136
  p_leb_PutU v137 v116 fun r138 =>
  cond (decide (List.length r138 + List.length v2.2.1 ≤ most))
  (let v139 := r138 ++ v2.2.1
  let v140 := ((List.length v139 : Nat) : Int)
  let v141 := decide (v140 > (65536 : Int))
  cond v141
  (k_ret ([] : List (Int)) (4 : Int))
  (let v142 := IntKind.i64.wrap (x.f24 + (1 : Int))
  rec ⟨v139, x.f22, x.f23, v142⟩)) none) none))
  (let v143 := IntKind.u8.wrap v2.1
  let v144 := List.set (List.replicate 1 (0 : Int)) 0 v143
  cond (decide (List.length x.f4 + List.length v144 ≤ most))
  (let v145 := x.f4 ++ v144
  p_leb_PutU v145 v116 fun r146 =>
  cond (decide (List.length r146 + List.length v2.2.1 ≤ most))
  (let v147 := r146 ++ v2.2.1
  let v148 := ((List.length v147 : Nat) : Int)
  let v149 := decide (v148 > (65536 : Int))
  cond v149
  (k_ret ([] : List (Int)) (4 : Int))
  (let v150 := IntKind.i64.wrap (x.f24 + (1 : Int))
  rec ⟨v147, x.f22, x.f23, v150⟩)) none) none))
  (both
  (let v151 := IntKind.u8.wrap v2.1
  both
  (let v152 := List.set (List.replicate 1 (0 : Int)) 0 v151
  both
  (cond (decide (List.length x.f4 + List.length v152 ≤ most))
  (let v153 := x.f4 ++ v152
  let v154 := ((List.length v2.2.1 : Nat) : Int)
  let v155 := IntKind.u64.wrap v154
  p_leb_PutU v153 v155 fun r156 =>
  cond (decide (List.length r156 + List.length v2.2.1 ≤ most))
  (let v157 := r156 ++ v2.2.1
  let v158 := ((List.length v157 : Nat) : Int)
  let v159 := decide (v158 > (65536 : Int))
  cond v159
  (k_ret ([] : List (Int)) (4 : Int))
  (let v160 := IntKind.i64.wrap (x.f24 + (1 : Int))
  rec ⟨v157, x.f22, x.f23, v160⟩)) none) none)
  (let v161 := ((List.length v2.2.1 : Nat) : Int)
  let v162 := IntKind.u64.wrap v161
  cond (decide (List.length x.f4 + List.length v152 ≤ most))
  (let v163 := x.f4 ++ v152
  p_leb_PutU v163 v162 fun r164 =>
  cond (decide (List.length r164 + List.length v2.2.1 ≤ most))
  (let v165 := r164 ++ v2.2.1
  let v166 := ((List.length v165 : Nat) : Int)
  let v167 := decide (v166 > (65536 : Int))
  cond v167
  (k_ret ([] : List (Int)) (4 : Int))
  (let v168 := IntKind.i64.wrap (x.f24 + (1 : Int))
  rec ⟨v165, x.f22, x.f23, v168⟩)) none) none))
  (let v169 := ((List.length v2.2.1 : Nat) : Int)
  let v170 := IntKind.u64.wrap v169
  let v171 := List.set (List.replicate 1 (0 : Int)) 0 v151
  cond (decide (List.length x.f4 + List.length v171 ≤ most))
  (let v172 := x.f4 ++ v171
  p_leb_PutU v172 v170 fun r173 =>
  cond (decide (List.length r173 + List.length v2.2.1 ≤ most))
  (let v174 := r173 ++ v2.2.1
  let v175 := ((List.length v174 : Nat) : Int)
  let v176 := decide (v175 > (65536 : Int))
  cond v176
  (k_ret ([] : List (Int)) (4 : Int))
  (let v177 := IntKind.i64.wrap (x.f24 + (1 : Int))
  rec ⟨v174, x.f22, x.f23, v177⟩)) none) none))
  (let v178 := ((List.length v2.2.1 : Nat) : Int)
  let v179 := IntKind.u64.wrap v178
  let v180 := IntKind.u8.wrap v2.1
  let v181 := List.set (List.replicate 1 (0 : Int)) 0 v180
  cond (decide (List.length x.f4 + List.length v181 ≤ most))
  (let v182 := x.f4 ++ v181
  p_leb_PutU v182 v179 fun r183 =>
  cond (decide (List.length r183 + List.length v2.2.1 ≤ most))
  (let v184 := r183 ++ v2.2.1
  let v185 := ((List.length v184 : Nat) : Int)
  let v186 := decide (v185 > (65536 : Int))
  cond v186
  (k_ret ([] : List (Int)) (4 : Int))
  (let v187 := IntKind.i64.wrap (x.f24 + (1 : Int))
  rec ⟨v184, x.f22, x.f23, v187⟩)) none) none))))) none)
  (k_exit_2 x.f4)
noncomputable def S_sect_Join_10 (x : X_sect_Join_10) : St := St.ofList [(4, (.v (.sl 5 (.int .u8)) (.o .s) x.f4)), (22, (.v (.sl 39 (.pair (.int .i64) (.pair (.sl 5 (.int .u8)) .unit))) .s x.f22)), (23, (.v (.int .i64) .s x.f23)), (24, (.v (.int .i64) .s x.f24))]
def out_sect_Join_10 : Ex → List Nat | .ret => [2, 3] | (.exit 2) => [4] | _ => []
noncomputable def fuel_sect_Join_10 (x : X_sect_Join_10) : Nat := fuel64
structure X_sect_Join_4 where
  f0 : List ((Int) × (List (Int)) × Unit)
  f4 : List (Int)
  f5 : (Int) × Unit
  f11 : List ((Int) × (List (Int)) × Unit)
  f12 : Int
  f13 : Int

noncomputable def B_sect_Join_4 {R : Type} (k_ret : (List (Int)) → Int → Option R) (k_exit_0 : (List ((Int) × (List (Int)) × Unit)) → (List (Int)) → Option R) (rec : X_sect_Join_4 → Option R) (x : X_sect_Join_4) : Option R :=
  let v1 := decide (x.f13 < x.f12)
  cond v1
  (cond (inB x.f13 (List.length x.f11))
  (let v2 := List.getD x.f11 x.f13.toNat ((0 : Int), (([] : List (Int)), ()))
  p_sect_order_next x.f5 v2.1 fun r3 b4 =>
  let v5 := !r3
  cond v5
  (k_ret ([] : List (Int)) (2 : Int))
  (let v6 := IntKind.i64.wrap (x.f13 + (1 : Int))
  rec ⟨x.f0, x.f4, b4, x.f11, x.f12, v6⟩)) none)
  (k_exit_0 x.f0 x.f4)
noncomputable def S_sect_Join_4 (x : X_sect_Join_4) : St := St.ofList [(0, (.v (.sl 39 (.pair (.int .i64) (.pair (.sl 5 (.int .u8)) .unit))) .s x.f0)), (4, (.v (.sl 5 (.int .u8)) (.o .s) x.f4)), (5, (.v (.ptr 62 (.pair (.int .i64) .unit)) (.o .s) (some x.f5))), (11, (.v (.sl 39 (.pair (.int .i64) (.pair (.sl 5 (.int .u8)) .unit))) .s x.f11)), (12, (.v (.int .i64) .s x.f12)), (13, (.v (.int .i64) .s x.f13))]
def out_sect_Join_4 : Ex → List Nat | .ret => [2, 3] | (.exit 0) => [0, 4] | _ => []
noncomputable def fuel_sect_Join_4 (x : X_sect_Join_4) : Nat := fuel64
noncomputable def lp_sect_Join : Loops := fun i R st K => match i with
  | 10 => match st 4, st 22, st 23, st 24 with
    | (.v (.sl 5 (.int .u8)) (.o .s) y4), (.v (.sl 39 (.pair (.int .i64) (.pair (.sl 5 (.int .u8)) .unit))) .s y22), (.v (.int .i64) .s y23), (.v (.int .i64) .s y24) => loopN (B_sect_Join_10 (fun e2 e3 => K .ret (St.ofList [(2, (.v (.sl 5 (.int .u8)) (.o .s) e2)), (3, (.v (.int .i64) .s e3))])) (fun e4 => K (.exit 2) (St.ofList [(4, (.v (.sl 5 (.int .u8)) (.o .s) e4))]))) (fuel_sect_Join_10 ⟨y4, y22, y23, y24⟩) ⟨y4, y22, y23, y24⟩
    | _, _, _, _ => none
  | 4 => match st 0, st 4, st 5, st 11, st 12, st 13 with
    | (.v (.sl 39 (.pair (.int .i64) (.pair (.sl 5 (.int .u8)) .unit))) .s y0), (.v (.sl 5 (.int .u8)) (.o .s) y4), (.v (.ptr 62 (.pair (.int .i64) .unit)) (.o .s) (some y5)), (.v (.sl 39 (.pair (.int .i64) (.pair (.sl 5 (.int .u8)) .unit))) .s y11), (.v (.int .i64) .s y12), (.v (.int .i64) .s y13) => loopN (B_sect_Join_4 (fun e2 e3 => K .ret (St.ofList [(2, (.v (.sl 5 (.int .u8)) (.o .s) e2)), (3, (.v (.int .i64) .s e3))])) (fun e0 e4 => K (.exit 0) (St.ofList [(0, (.v (.sl 39 (.pair (.int .i64) (.pair (.sl 5 (.int .u8)) .unit))) .s e0)), (4, (.v (.sl 5 (.int .u8)) (.o .s) e4))]))) (fuel_sect_Join_4 ⟨y0, y4, y5, y11, y12, y13⟩) ⟨y0, y4, y5, y11, y12, y13⟩
    | _, _, _, _, _, _ => none
  | _ => none
noncomputable def c_sect_Join_10 : Code := match loopAt 10 (body Try.f19.body) with | some c => c | none => .skip
theorem step_sect_Join_10 (R : Type) (K : Ex → St → Option R) (rec : St → Option R) (x : X_sect_Join_10) : evC (envOf gam_sect_Join Try.f19.ntmps fz_sect_Join lv_sect_Join) lp_sect_Join c_sect_Join_10 (S_sect_Join_10 x) (fun e st => match e with | .normal => rec (st.only [4, 22, 23, 24]) | e => K e (st.only (out_sect_Join_10 e))) = B_sect_Join_10 (fun e2 e3 => K .ret (St.ofList [(2, (.v (.sl 5 (.int .u8)) (.o .s) e2)), (3, (.v (.int .i64) .s e3))])) (fun e4 => K (.exit 2) (St.ofList [(4, (.v (.sl 5 (.int .u8)) (.o .s) e4))])) (fun x => rec (S_sect_Join_10 x)) x := by kernel_rfl
theorem ok_sect_Join_10 : LoopOk (envOf gam_sect_Join Try.f19.ntmps fz_sect_Join lv_sect_Join) lp_sect_Join c_sect_Join_10 := by
  refine loopOk_of (hd := [4, 22, 23, 24]) (out := out_sect_Join_10) (S := S_sect_Join_10) (fun _ K => B_sect_Join_10 (fun e2 e3 => K .ret (St.ofList [(2, (.v (.sl 5 (.int .u8)) (.o .s) e2)), (3, (.v (.int .i64) .s e3))])) (fun e4 => K (.exit 2) (St.ofList [(4, (.v (.sl 5 (.int .u8)) (.o .s) e4))]))) fuel_sect_Join_10 10 step_sect_Join_10 (fun x => by kernel_rfl) (by kernel_rfl) ?_
  intro R st K r h
  unfold lp_sect_Join at h
  simp only at h
  split at h
  · rename_i y4 y22 y23 y24 hy4 hy22 hy23 hy24
    refine ⟨⟨y4, y22, y23, y24⟩, ?_, h⟩
    show St.ofList [(4, st 4), (22, st 22), (23, st 23), (24, st 24)] = _
    rw [hy4, hy22, hy23, hy24]
    rfl
  · cases h
noncomputable def c_sect_Join_4 : Code := match loopAt 4 (body Try.f19.body) with | some c => c | none => .skip
theorem step_sect_Join_4 (R : Type) (K : Ex → St → Option R) (rec : St → Option R) (x : X_sect_Join_4) : evC (envOf gam_sect_Join Try.f19.ntmps fz_sect_Join lv_sect_Join) lp_sect_Join c_sect_Join_4 (S_sect_Join_4 x) (fun e st => match e with | .normal => rec (st.only [0, 4, 5, 11, 12, 13]) | e => K e (st.only (out_sect_Join_4 e))) = B_sect_Join_4 (fun e2 e3 => K .ret (St.ofList [(2, (.v (.sl 5 (.int .u8)) (.o .s) e2)), (3, (.v (.int .i64) .s e3))])) (fun e0 e4 => K (.exit 0) (St.ofList [(0, (.v (.sl 39 (.pair (.int .i64) (.pair (.sl 5 (.int .u8)) .unit))) .s e0)), (4, (.v (.sl 5 (.int .u8)) (.o .s) e4))])) (fun x => rec (S_sect_Join_4 x)) x := by kernel_rfl
theorem ok_sect_Join_4 : LoopOk (envOf gam_sect_Join Try.f19.ntmps fz_sect_Join lv_sect_Join) lp_sect_Join c_sect_Join_4 := by
  refine loopOk_of (hd := [0, 4, 5, 11, 12, 13]) (out := out_sect_Join_4) (S := S_sect_Join_4) (fun _ K => B_sect_Join_4 (fun e2 e3 => K .ret (St.ofList [(2, (.v (.sl 5 (.int .u8)) (.o .s) e2)), (3, (.v (.int .i64) .s e3))])) (fun e0 e4 => K (.exit 0) (St.ofList [(0, (.v (.sl 39 (.pair (.int .i64) (.pair (.sl 5 (.int .u8)) .unit))) .s e0)), (4, (.v (.sl 5 (.int .u8)) (.o .s) e4))]))) fuel_sect_Join_4 4 step_sect_Join_4 (fun x => by kernel_rfl) (by kernel_rfl) ?_
  intro R st K r h
  unfold lp_sect_Join at h
  simp only at h
  split at h
  · rename_i y0 y4 y5 y11 y12 y13 hy0 hy4 hy5 hy11 hy12 hy13
    refine ⟨⟨y0, y4, y5, y11, y12, y13⟩, ?_, h⟩
    show St.ofList [(0, st 0), (4, st 4), (5, st 5), (11, st 11), (12, st 12), (13, st 13)] = _
    rw [hy0, hy4, hy5, hy11, hy12, hy13]
    rfl
  · cases h
noncomputable def p_sect_Join {R : Type} (a0 : List ((Int) × (List (Int)) × Unit)) (K : (List (Int)) → Int → Option R) : Option R :=
  p_sect_magic  fun r1 =>
  let v2 := ((List.length a0 : Nat) : Int)
  loopN (B_sect_Join_4 (fun w3 w4 => K w3 w4) (fun w5 w6 => let v7 := ((List.length w5 : Nat) : Int)
  loopN (B_sect_Join_10 (fun w8 w9 => K w8 w9) (fun w10 => K w10 (0 : Int))) (fuel_sect_Join_10 ⟨w6, w5, v7, (0 : Int)⟩) ⟨w6, w5, v7, (0 : Int)⟩)) (fuel_sect_Join_4 ⟨a0, r1, ((0 : Int), ()), a0, v2, (0 : Int)⟩) ⟨a0, r1, ((0 : Int), ()), a0, v2, (0 : Int)⟩
noncomputable def cs_sect_Join : CSpec := { ins := [(.val (.sl 39 (.pair (.int .i64) (.pair (.sl 5 (.int .u8)) .unit))) .s)], outs := [((.sl 5 (.int .u8)), (.o .s)), ((.int .i64), .s)], fn := fun (d : (List ((Int) × (List (Int)) × Unit)) × Unit) K => p_sect_Join d.1 fun r0 r1 => K ((r0, r1, ()) : (List (Int)) × Int × Unit) ((()) : Unit) }
theorem h_sect_Join : Holds Try.prog 19 cs_sect_Join := by
  refine holds_of (env := envOf gam_sect_Join Try.f19.ntmps fz_sect_Join lv_sect_Join) (fn := Try.f19) (code := body Try.f19.body) (rs := [(2, none), (3, none)]) (lp := lp_sect_Join) mixed (envTyOk _ _ _ _) gamOk_sect_Join Try.func19 (by kernel_rfl) (by kernel_rfl) (by kernel_rfl) (by kernel_rfl) (by kernel_rfl) (loopsOk_of fun c hc => ?_) (by kernel_rfl) ?_
  · rw [show loopsL (body Try.f19.body) = [c_sect_Join_4, c_sect_Join_10] by kernel_rfl] at hc
    simp only [List.mem_cons, List.not_mem_nil, or_false] at hc
    rcases hc with rfl | rfl
    · exact ok_sect_Join_4
    · exact ok_sect_Join_10
  intro d R K res h
  have : evC (envOf gam_sect_Join Try.f19.ntmps fz_sect_Join lv_sect_Join) lp_sect_Join (body Try.f19.body) (St.start cs_sect_Join.ins d) (retK (envOf gam_sect_Join Try.f19.ntmps fz_sect_Join lv_sect_Join) cs_sect_Join.ins cs_sect_Join.outs [(2, none), (3, none)] K) = cs_sect_Join.fn d K := by kernel_rfl
  rw [this]; exact h
-- f14 trammel/sect.Split
noncomputable def fz_sect_Split : Nat → Bool
  | 15 => true
  | 43 => true
  | 49 => true
  | 72 => true
  | _ => false
noncomputable def lv_sect_Split : Nat → Option (List Nat)
  | 0 => some [0]
  | 1 => some [0]
  | 2 => some []
  | 3 => some [0]
  | 4 => some [0, 15, 16, 17]
  | 5 => some [0, 15, 16, 17]
  | 6 => some [0, 4, 5, 15, 16, 17]
  | 7 => some []
  | 8 => some [0, 4, 5, 15, 16, 17]
  | 9 => some []
  | 10 => some [0, 15, 16, 17]
  | 11 => some [0]
  | 12 => some [0, 6]
  | 13 => some [0, 6, 7]
  | 14 => some [0, 6, 7]
  | 15 => some [0, 6, 7]
  | 16 => some [0, 6, 7, 8]
  | 17 => some [6]
  | 18 => some [0, 6, 7, 8]
  | 19 => some [0, 6, 7, 8, 9, 10, 11]
  | 20 => some [6, 11]
  | 21 => some [0, 6, 7, 8, 9, 10]
  | 22 => some [0, 6, 7, 8, 9]
  | 23 => some [6]
  | 24 => some [0, 6, 7, 8, 9]
  | 25 => some [0, 6, 7, 9]
  | 26 => some [6]
  | _ => none
noncomputable def gam_sect_Split : FuncId → Option CSpec
  | 30 => some cs_sect_magic
  | 31 => some cs_sect_order_next
  | 32 => some cs_leb_U
  | 33 => some cs_slices_CloneU8
  | _ => none
theorem gamOk_sect_Split : EnvFn Try.prog (envOf gam_sect_Split Try.f14.ntmps fz_sect_Split lv_sect_Split) := by
  intro f c h
  unfold envOf gam_sect_Split at h
  simp only at h
  split at h <;> first | (cases h; done) | (cases h; exact h_sect_magic) | (cases h; exact h_sect_order_next) | (cases h; exact h_leb_U) | (cases h; exact h_slices_CloneU8)
structure X_sect_Split_14 where
  f0 : List (Int)
  f6 : List ((Int) × (List (Int)) × Unit)
  f7 : (Int) × Unit

noncomputable def B_sect_Split_14 {R : Type} (k_ret : (List ((Int) × (List (Int)) × Unit)) → Int → Option R) (k_exit_2 : (List ((Int) × (List (Int)) × Unit)) → Option R) (rec : X_sect_Split_14 → Option R) (x : X_sect_Split_14) : Option R :=
  let v1 := ((List.length x.f0 : Nat) : Int)
  let v2 := decide (v1 > (0 : Int))
  cond v2
  (cond (inB (0 : Int) (List.length x.f0))
  (let v3 := List.getD x.f0 (0 : Int).toNat (0 : Int)
  let v4 := IntKind.i64.wrap v3
  p_sect_order_next x.f7 v4 fun r5 b6 =>
  let v7 := !r5
  cond v7
  (k_ret x.f6 (2 : Int))
  (cond (inR (1 : Int) ((List.length x.f0 : Nat) : Int) (List.length x.f0))
  (let v8 := rng x.f0 (1 : Int) ((List.length x.f0 : Nat) : Int)
  p_leb_U v8 (32 : Int) fun r9 r10 r11 =>
  let v12 := r11 != (0 : Int)
  cond v12
  (k_ret x.f6 r11)
  (let v13 := IntKind.i64.wrap ((1 : Int) + r10)
  cond (inR v13 ((List.length x.f0 : Nat) : Int) (List.length x.f0))
  (let v14 := rng x.f0 v13 ((List.length x.f0 : Nat) : Int)
  let v15 := ((List.length v14 : Nat) : Int)
  let v16 := IntKind.u64.wrap v15
  let v17 := decide (r9 > v16)
  cond v17
  (k_ret x.f6 (1 : Int))
  (cond (inR (0 : Int) r9 (List.length v14))
  (let v18 := rng v14 (0 : Int) r9
  p_slices_CloneU8 v18 fun r19 =>
  let v20 := List.set (List.replicate 1 ((0 : Int), (([] : List (Int)), ()))) 0 (v4, (r19, ()))
  cond (decide (List.length x.f6 + List.length v20 ≤ most))
  (let v21 := x.f6 ++ v20
  cond (inR r9 ((List.length v14 : Nat) : Int) (List.length v14))
  (let v22 := rng v14 r9 ((List.length v14 : Nat) : Int)
  rec ⟨v22, v21, b6⟩) none) none) none)) none)) none)) none)
  (k_exit_2 x.f6)
noncomputable def S_sect_Split_14 (x : X_sect_Split_14) : St := St.ofList [(0, (.v (.sl 5 (.int .u8)) .s x.f0)), (6, (.v (.sl 39 (.pair (.int .i64) (.pair (.sl 5 (.int .u8)) .unit))) (.o .s) x.f6)), (7, (.v (.ptr 62 (.pair (.int .i64) .unit)) (.o .s) (some x.f7)))]
def out_sect_Split_14 : Ex → List Nat | .ret => [2, 3] | (.exit 2) => [6] | _ => []
noncomputable def fuel_sect_Split_14 (x : X_sect_Split_14) : Nat := fuel64
structure X_sect_Split_4 where
  f0 : List (Int)
  f15 : List (Int)
  f16 : Int
  f17 : Int

noncomputable def B_sect_Split_4 {R : Type} (k_ret : (List ((Int) × (List (Int)) × Unit)) → Int → Option R) (k_exit_0 : (List (Int)) → Option R) (rec : X_sect_Split_4 → Option R) (x : X_sect_Split_4) : Option R :=
  let v1 := decide (x.f17 < x.f16)
  cond v1
  (cond (inB x.f17 (List.length x.f15))
  (let v2 := List.getD x.f15 x.f17.toNat (0 : Int)
  let v3 := ((List.length x.f0 : Nat) : Int)
  let v4 := decide (x.f17 ≥ v3)
  cond v4
  (k_ret ([] : List ((Int) × (List (Int)) × Unit)) (1 : Int))
  (cond (inB x.f17 (List.length x.f0))
  (let v5 := List.getD x.f0 x.f17.toNat (0 : Int)
  let v6 := v5 != v2
  cond v6
  (k_ret ([] : List ((Int) × (List (Int)) × Unit)) (2 : Int))
  (let v7 := IntKind.i64.wrap (x.f17 + (1 : Int))
  rec ⟨x.f0, x.f15, x.f16, v7⟩)) none)) none)
  (k_exit_0 x.f0)
noncomputable def S_sect_Split_4 (x : X_sect_Split_4) : St := St.ofList [(0, (.v (.sl 5 (.int .u8)) .s x.f0)), (15, (.v (.sl 5 (.int .u8)) .s x.f15)), (16, (.v (.int .i64) .s x.f16)), (17, (.v (.int .i64) .s x.f17))]
def out_sect_Split_4 : Ex → List Nat | .ret => [2, 3] | (.exit 0) => [0] | _ => []
noncomputable def fuel_sect_Split_4 (x : X_sect_Split_4) : Nat := fuel64
noncomputable def lp_sect_Split : Loops := fun i R st K => match i with
  | 14 => match st 0, st 6, st 7 with
    | (.v (.sl 5 (.int .u8)) .s y0), (.v (.sl 39 (.pair (.int .i64) (.pair (.sl 5 (.int .u8)) .unit))) (.o .s) y6), (.v (.ptr 62 (.pair (.int .i64) .unit)) (.o .s) (some y7)) => loopN (B_sect_Split_14 (fun e2 e3 => K .ret (St.ofList [(2, (.v (.sl 39 (.pair (.int .i64) (.pair (.sl 5 (.int .u8)) .unit))) (.o .s) e2)), (3, (.v (.int .i64) .s e3))])) (fun e6 => K (.exit 2) (St.ofList [(6, (.v (.sl 39 (.pair (.int .i64) (.pair (.sl 5 (.int .u8)) .unit))) (.o .s) e6))]))) (fuel_sect_Split_14 ⟨y0, y6, y7⟩) ⟨y0, y6, y7⟩
    | _, _, _ => none
  | 4 => match st 0, st 15, st 16, st 17 with
    | (.v (.sl 5 (.int .u8)) .s y0), (.v (.sl 5 (.int .u8)) .s y15), (.v (.int .i64) .s y16), (.v (.int .i64) .s y17) => loopN (B_sect_Split_4 (fun e2 e3 => K .ret (St.ofList [(2, (.v (.sl 39 (.pair (.int .i64) (.pair (.sl 5 (.int .u8)) .unit))) (.o .s) e2)), (3, (.v (.int .i64) .s e3))])) (fun e0 => K (.exit 0) (St.ofList [(0, (.v (.sl 5 (.int .u8)) .s e0))]))) (fuel_sect_Split_4 ⟨y0, y15, y16, y17⟩) ⟨y0, y15, y16, y17⟩
    | _, _, _, _ => none
  | _ => none
noncomputable def c_sect_Split_14 : Code := match loopAt 14 (body Try.f14.body) with | some c => c | none => .skip
theorem step_sect_Split_14 (R : Type) (K : Ex → St → Option R) (rec : St → Option R) (x : X_sect_Split_14) : evC (envOf gam_sect_Split Try.f14.ntmps fz_sect_Split lv_sect_Split) lp_sect_Split c_sect_Split_14 (S_sect_Split_14 x) (fun e st => match e with | .normal => rec (st.only [0, 6, 7]) | e => K e (st.only (out_sect_Split_14 e))) = B_sect_Split_14 (fun e2 e3 => K .ret (St.ofList [(2, (.v (.sl 39 (.pair (.int .i64) (.pair (.sl 5 (.int .u8)) .unit))) (.o .s) e2)), (3, (.v (.int .i64) .s e3))])) (fun e6 => K (.exit 2) (St.ofList [(6, (.v (.sl 39 (.pair (.int .i64) (.pair (.sl 5 (.int .u8)) .unit))) (.o .s) e6))])) (fun x => rec (S_sect_Split_14 x)) x := by kernel_rfl
theorem ok_sect_Split_14 : LoopOk (envOf gam_sect_Split Try.f14.ntmps fz_sect_Split lv_sect_Split) lp_sect_Split c_sect_Split_14 := by
  refine loopOk_of (hd := [0, 6, 7]) (out := out_sect_Split_14) (S := S_sect_Split_14) (fun _ K => B_sect_Split_14 (fun e2 e3 => K .ret (St.ofList [(2, (.v (.sl 39 (.pair (.int .i64) (.pair (.sl 5 (.int .u8)) .unit))) (.o .s) e2)), (3, (.v (.int .i64) .s e3))])) (fun e6 => K (.exit 2) (St.ofList [(6, (.v (.sl 39 (.pair (.int .i64) (.pair (.sl 5 (.int .u8)) .unit))) (.o .s) e6))]))) fuel_sect_Split_14 14 step_sect_Split_14 (fun x => by kernel_rfl) (by kernel_rfl) ?_
  intro R st K r h
  unfold lp_sect_Split at h
  simp only at h
  split at h
  · rename_i y0 y6 y7 hy0 hy6 hy7
    refine ⟨⟨y0, y6, y7⟩, ?_, h⟩
    show St.ofList [(0, st 0), (6, st 6), (7, st 7)] = _
    rw [hy0, hy6, hy7]
    rfl
  · cases h
noncomputable def c_sect_Split_4 : Code := match loopAt 4 (body Try.f14.body) with | some c => c | none => .skip
theorem step_sect_Split_4 (R : Type) (K : Ex → St → Option R) (rec : St → Option R) (x : X_sect_Split_4) : evC (envOf gam_sect_Split Try.f14.ntmps fz_sect_Split lv_sect_Split) lp_sect_Split c_sect_Split_4 (S_sect_Split_4 x) (fun e st => match e with | .normal => rec (st.only [0, 15, 16, 17]) | e => K e (st.only (out_sect_Split_4 e))) = B_sect_Split_4 (fun e2 e3 => K .ret (St.ofList [(2, (.v (.sl 39 (.pair (.int .i64) (.pair (.sl 5 (.int .u8)) .unit))) (.o .s) e2)), (3, (.v (.int .i64) .s e3))])) (fun e0 => K (.exit 0) (St.ofList [(0, (.v (.sl 5 (.int .u8)) .s e0))])) (fun x => rec (S_sect_Split_4 x)) x := by kernel_rfl
theorem ok_sect_Split_4 : LoopOk (envOf gam_sect_Split Try.f14.ntmps fz_sect_Split lv_sect_Split) lp_sect_Split c_sect_Split_4 := by
  refine loopOk_of (hd := [0, 15, 16, 17]) (out := out_sect_Split_4) (S := S_sect_Split_4) (fun _ K => B_sect_Split_4 (fun e2 e3 => K .ret (St.ofList [(2, (.v (.sl 39 (.pair (.int .i64) (.pair (.sl 5 (.int .u8)) .unit))) (.o .s) e2)), (3, (.v (.int .i64) .s e3))])) (fun e0 => K (.exit 0) (St.ofList [(0, (.v (.sl 5 (.int .u8)) .s e0))]))) fuel_sect_Split_4 4 step_sect_Split_4 (fun x => by kernel_rfl) (by kernel_rfl) ?_
  intro R st K r h
  unfold lp_sect_Split at h
  simp only at h
  split at h
  · rename_i y0 y15 y16 y17 hy0 hy15 hy16 hy17
    refine ⟨⟨y0, y15, y16, y17⟩, ?_, h⟩
    show St.ofList [(0, st 0), (15, st 15), (16, st 16), (17, st 17)] = _
    rw [hy0, hy15, hy16, hy17]
    rfl
  · cases h
noncomputable def p_sect_Split {R : Type} (a0 : List (Int)) (K : (List ((Int) × (List (Int)) × Unit)) → Int → Option R) : Option R :=
  let v1 := ((List.length a0 : Nat) : Int)
  let v2 := decide (v1 > (65536 : Int))
  cond v2
  (K ([] : List ((Int) × (List (Int)) × Unit)) (4 : Int))
  (p_sect_magic  fun r3 =>
  let v4 := ((List.length r3 : Nat) : Int)
  loopN (B_sect_Split_4 (fun w5 w6 => K w5 w6) (fun w7 => cond (inR (8 : Int) ((List.length w7 : Nat) : Int) (List.length w7))
  (let v8 := rng w7 (8 : Int) ((List.length w7 : Nat) : Int)
  loopN (B_sect_Split_14 (fun w9 w10 => K w9 w10) (fun w11 => K w11 (0 : Int))) (fuel_sect_Split_14 ⟨v8, ([] : List ((Int) × (List (Int)) × Unit)), ((0 : Int), ())⟩) ⟨v8, ([] : List ((Int) × (List (Int)) × Unit)), ((0 : Int), ())⟩) none)) (fuel_sect_Split_4 ⟨a0, r3, v4, (0 : Int)⟩) ⟨a0, r3, v4, (0 : Int)⟩)
noncomputable def cs_sect_Split : CSpec := { ins := [(.val (.sl 5 (.int .u8)) .s)], outs := [((.sl 39 (.pair (.int .i64) (.pair (.sl 5 (.int .u8)) .unit))), (.o .s)), ((.int .i64), .s)], fn := fun (d : (List (Int)) × Unit) K => p_sect_Split d.1 fun r0 r1 => K ((r0, r1, ()) : (List ((Int) × (List (Int)) × Unit)) × Int × Unit) ((()) : Unit) }
theorem h_sect_Split : Holds Try.prog 14 cs_sect_Split := by
  refine holds_of (env := envOf gam_sect_Split Try.f14.ntmps fz_sect_Split lv_sect_Split) (fn := Try.f14) (code := body Try.f14.body) (rs := [(2, none), (3, none)]) (lp := lp_sect_Split) mixed (envTyOk _ _ _ _) gamOk_sect_Split Try.func14 (by kernel_rfl) (by kernel_rfl) (by kernel_rfl) (by kernel_rfl) (by kernel_rfl) (loopsOk_of fun c hc => ?_) (by kernel_rfl) ?_
  · rw [show loopsL (body Try.f14.body) = [c_sect_Split_4, c_sect_Split_14] by kernel_rfl] at hc
    simp only [List.mem_cons, List.not_mem_nil, or_false] at hc
    rcases hc with rfl | rfl
    · exact ok_sect_Split_4
    · exact ok_sect_Split_14
  intro d R K res h
  have : evC (envOf gam_sect_Split Try.f14.ntmps fz_sect_Split lv_sect_Split) lp_sect_Split (body Try.f14.body) (St.start cs_sect_Split.ins d) (retK (envOf gam_sect_Split Try.f14.ntmps fz_sect_Split lv_sect_Split) cs_sect_Split.ins cs_sect_Split.outs [(2, none), (3, none)] K) = cs_sect_Split.fn d K := by kernel_rfl
  rw [this]; exact h
-- f13 trammel/trammellaw07.awake
noncomputable def fz_law07_awake : Nat → Bool
  | _ => false
noncomputable def lv_law07_awake : Nat → Option (List Nat)
  | _ => none
noncomputable def gam_law07_awake : FuncId → Option CSpec
  | 14 => some cs_sect_Split
  | 19 => some cs_sect_Join
  | _ => none
theorem gamOk_law07_awake : EnvFn Try.prog (envOf gam_law07_awake Try.f13.ntmps fz_law07_awake lv_law07_awake) := by
  intro f c h
  unfold envOf gam_law07_awake at h
  simp only at h
  split at h <;> first | (cases h; done) | (cases h; exact h_sect_Split) | (cases h; exact h_sect_Join)
noncomputable def p_law07_awake {R : Type}  (K : Bool → Option R) : Option R :=
  let v1 := List.set (List.replicate 1 (0 : Int)) 0 (0 : Int)
  let v2 := List.set (List.replicate 1 ((0 : Int), (([] : List (Int)), ()))) 0 ((1 : Int), (v1, ()))
  p_sect_Join v2 fun r3 r4 =>
  p_sect_Split r3 fun r5 r6 =>
  let v7 := r4 == (0 : Int)
  cond v7
  (let v8 := ((List.length r3 : Nat) : Int)
  let v9 := v8 == (11 : Int)
  cond v9
  (let v10 := r6 == (0 : Int)
  cond v10
  (let v11 := ((List.length r5 : Nat) : Int)
  let v12 := v11 == (1 : Int)
  cond v12
  (cond (inB (0 : Int) (List.length r5))
  (let v13 := (List.getD r5 (0 : Int).toNat ((0 : Int), (([] : List (Int)), ()))).1
  let v14 := v13 == (1 : Int)
  K v14) none)
  (K false))
  (K false))
  (K false))
  (K false)
noncomputable def cs_law07_awake : CSpec := { ins := [], outs := [(.bool, .s)], fn := fun (d : Unit) K => p_law07_awake  fun r0 => K ((r0, ()) : Bool × Unit) ((()) : Unit) }
theorem h_law07_awake : Holds Try.prog 13 cs_law07_awake := by
  refine holds_of (env := envOf gam_law07_awake Try.f13.ntmps fz_law07_awake lv_law07_awake) (fn := Try.f13) (code := body Try.f13.body) (rs := [(0, none)]) (lp := lp0) mixed (envTyOk _ _ _ _) gamOk_law07_awake Try.func13 (by kernel_rfl) (by kernel_rfl) (by kernel_rfl) (by kernel_rfl) (by kernel_rfl) (loopsOk_none (by kernel_rfl)) (by kernel_rfl) ?_
  intro d R K res h
  have : evC (envOf gam_law07_awake Try.f13.ntmps fz_law07_awake lv_law07_awake) lp0 (body Try.f13.body) (St.start cs_law07_awake.ins d) (retK (envOf gam_law07_awake Try.f13.ntmps fz_law07_awake lv_law07_awake) cs_law07_awake.ins cs_law07_awake.outs [(0, none)] K) = cs_law07_awake.fn d K := by kernel_rfl
  rw [this]; exact h
-- f41 trammel/trammelref07.place
noncomputable def fz_ref07_place : Nat → Bool
  | _ => false
noncomputable def lv_ref07_place : Nat → Option (List Nat)
  | _ => none
noncomputable def gam_ref07_place : FuncId → Option CSpec
  | _ => none
theorem gamOk_ref07_place : EnvFn Try.prog (envOf gam_ref07_place Try.f41.ntmps fz_ref07_place lv_ref07_place) := by
  intro f c h
  unfold envOf gam_ref07_place at h
  simp only at h
  cases h
noncomputable def p_ref07_place {R : Type} (a0 : Int) (K : Int → Option R) : Option R :=
  let v1 := a0 == (12 : Int)
  cond v1
  (K (95 : Int))
  (let v2 := IntKind.i64.wrap (a0 * (10 : Int))
  K v2)
noncomputable def cs_ref07_place : CSpec := { ins := [(.val (.int .i64) .s)], outs := [((.int .i64), .s)], fn := fun (d : Int × Unit) K => p_ref07_place d.1 fun r0 => K ((r0, ()) : Int × Unit) ((()) : Unit) }
theorem h_ref07_place : Holds Try.prog 41 cs_ref07_place := by
  refine holds_of (env := envOf gam_ref07_place Try.f41.ntmps fz_ref07_place lv_ref07_place) (fn := Try.f41) (code := body Try.f41.body) (rs := [(2, none)]) (lp := lp0) mixed (envTyOk _ _ _ _) gamOk_ref07_place Try.func41 (by kernel_rfl) (by kernel_rfl) (by kernel_rfl) (by kernel_rfl) (by kernel_rfl) (loopsOk_none (by kernel_rfl)) (by kernel_rfl) ?_
  intro d R K res h
  have : evC (envOf gam_ref07_place Try.f41.ntmps fz_ref07_place lv_ref07_place) lp0 (body Try.f41.body) (St.start cs_ref07_place.ins d) (retK (envOf gam_ref07_place Try.f41.ntmps fz_ref07_place lv_ref07_place) cs_ref07_place.ins cs_ref07_place.outs [(2, none)] K) = cs_ref07_place.fn d K := by kernel_rfl
  rw [this]; exact h
-- f34 trammel/trammelref07.may
noncomputable def fz_ref07_may : Nat → Bool
  | _ => false
noncomputable def lv_ref07_may : Nat → Option (List Nat)
  | _ => none
noncomputable def gam_ref07_may : FuncId → Option CSpec
  | 41 => some cs_ref07_place
  | _ => none
theorem gamOk_ref07_may : EnvFn Try.prog (envOf gam_ref07_may Try.f34.ntmps fz_ref07_may lv_ref07_may) := by
  intro f c h
  unfold envOf gam_ref07_may at h
  simp only at h
  split at h <;> first | (cases h; done) | (cases h; exact h_ref07_place)
structure X_ref07_may_4 where
  f0 : List ((Int) × (List (Int)) × Unit)
  f1 : Int
  f5 : Int

noncomputable def B_ref07_may_4 {R : Type} (k_ret : Bool → Option R) (k_exit_0 : Option R) (rec : X_ref07_may_4 → Option R) (x : X_ref07_may_4) : Option R :=
  let v1 := ((List.length x.f0 : Nat) : Int)
  let v2 := decide (x.f5 < v1)
  cond v2
  (let v3 := x.f1 != (0 : Int)
  cond v3
  (cond (inB x.f5 (List.length x.f0))
  (let v4 := List.getD x.f0 x.f5.toNat ((0 : Int), (([] : List (Int)), ()))
  let v5 := v4.1 != (0 : Int)
  cond v5
  (cond (inB x.f5 (List.length x.f0))
  (let v6 := List.getD x.f0 x.f5.toNat ((0 : Int), (([] : List (Int)), ()))
  p_ref07_place v6.1 fun r7 =>
  p_ref07_place x.f1 fun r8 =>
  let v9 := decide (r7 ≥ r8)
  cond v9
  (k_ret false)
  (let v10 := IntKind.i64.wrap (x.f5 + (1 : Int))
  rec ⟨x.f0, x.f1, v10⟩)) none)
  (let v11 := IntKind.i64.wrap (x.f5 + (1 : Int))
  rec ⟨x.f0, x.f1, v11⟩)) none)
  (let v12 := IntKind.i64.wrap (x.f5 + (1 : Int))
  rec ⟨x.f0, x.f1, v12⟩))
  (k_exit_0)
noncomputable def S_ref07_may_4 (x : X_ref07_may_4) : St := St.ofList [(0, (.v (.sl 38 (.pair (.int .i64) (.pair (.sl 5 (.int .u8)) .unit))) .s x.f0)), (1, (.v (.int .i64) .s x.f1)), (5, (.v (.int .i64) .s x.f5))]
def out_ref07_may_4 : Ex → List Nat | .ret => [4] | (.exit 0) => [] | _ => []
noncomputable def fuel_ref07_may_4 (x : X_ref07_may_4) : Nat := fuel64
noncomputable def lp_ref07_may : Loops := fun i R st K => match i with
  | 4 => match st 0, st 1, st 5 with
    | (.v (.sl 38 (.pair (.int .i64) (.pair (.sl 5 (.int .u8)) .unit))) .s y0), (.v (.int .i64) .s y1), (.v (.int .i64) .s y5) => loopN (B_ref07_may_4 (fun e4 => K .ret (St.ofList [(4, (.v .bool .s e4))])) (K (.exit 0) (St.ofList []))) (fuel_ref07_may_4 ⟨y0, y1, y5⟩) ⟨y0, y1, y5⟩
    | _, _, _ => none
  | _ => none
noncomputable def c_ref07_may_4 : Code := match loopAt 4 (body Try.f34.body) with | some c => c | none => .skip
theorem step_ref07_may_4 (R : Type) (K : Ex → St → Option R) (rec : St → Option R) (x : X_ref07_may_4) : evC (envOf gam_ref07_may Try.f34.ntmps fz_ref07_may lv_ref07_may) lp_ref07_may c_ref07_may_4 (S_ref07_may_4 x) (fun e st => match e with | .normal => rec (st.only [0, 1, 5]) | e => K e (st.only (out_ref07_may_4 e))) = B_ref07_may_4 (fun e4 => K .ret (St.ofList [(4, (.v .bool .s e4))])) (K (.exit 0) (St.ofList [])) (fun x => rec (S_ref07_may_4 x)) x := by kernel_rfl
theorem ok_ref07_may_4 : LoopOk (envOf gam_ref07_may Try.f34.ntmps fz_ref07_may lv_ref07_may) lp_ref07_may c_ref07_may_4 := by
  refine loopOk_of (hd := [0, 1, 5]) (out := out_ref07_may_4) (S := S_ref07_may_4) (fun _ K => B_ref07_may_4 (fun e4 => K .ret (St.ofList [(4, (.v .bool .s e4))])) (K (.exit 0) (St.ofList []))) fuel_ref07_may_4 4 step_ref07_may_4 (fun x => by kernel_rfl) (by kernel_rfl) ?_
  intro R st K r h
  unfold lp_ref07_may at h
  simp only at h
  split at h
  · rename_i y0 y1 y5 hy0 hy1 hy5
    refine ⟨⟨y0, y1, y5⟩, ?_, h⟩
    show St.ofList [(0, st 0), (1, st 1), (5, st 5)] = _
    rw [hy0, hy1, hy5]
    rfl
  · cases h
noncomputable def p_ref07_may {R : Type} (a0 : List ((Int) × (List (Int)) × Unit)) (a1 : Int) (K : Bool → Option R) : Option R :=
  let v1 := decide (a1 < (0 : Int))
  cond v1
  (K false)
  (let v2 := decide (a1 > (12 : Int))
  cond v2
  (K false)
  (loopN (B_ref07_may_4 (fun w3 => K w3) (K true)) (fuel_ref07_may_4 ⟨a0, a1, (0 : Int)⟩) ⟨a0, a1, (0 : Int)⟩))
noncomputable def cs_ref07_may : CSpec := { ins := [(.val (.sl 38 (.pair (.int .i64) (.pair (.sl 5 (.int .u8)) .unit))) .s), (.val (.int .i64) .s)], outs := [(.bool, .s)], fn := fun (d : (List ((Int) × (List (Int)) × Unit)) × Int × Unit) K => p_ref07_may d.1 d.2.1 fun r0 => K ((r0, ()) : Bool × Unit) ((()) : Unit) }
theorem h_ref07_may : Holds Try.prog 34 cs_ref07_may := by
  refine holds_of (env := envOf gam_ref07_may Try.f34.ntmps fz_ref07_may lv_ref07_may) (fn := Try.f34) (code := body Try.f34.body) (rs := [(4, none)]) (lp := lp_ref07_may) mixed (envTyOk _ _ _ _) gamOk_ref07_may Try.func34 (by kernel_rfl) (by kernel_rfl) (by kernel_rfl) (by kernel_rfl) (by kernel_rfl) (loopsOk_of fun c hc => ?_) (by kernel_rfl) ?_
  · rw [show loopsL (body Try.f34.body) = [c_ref07_may_4] by kernel_rfl] at hc
    simp only [List.mem_cons, List.not_mem_nil, or_false] at hc
    rcases hc with rfl
    · exact ok_ref07_may_4
  intro d R K res h
  have : evC (envOf gam_ref07_may Try.f34.ntmps fz_ref07_may lv_ref07_may) lp_ref07_may (body Try.f34.body) (St.start cs_ref07_may.ins d) (retK (envOf gam_ref07_may Try.f34.ntmps fz_ref07_may lv_ref07_may) cs_ref07_may.ins cs_ref07_may.outs [(4, none)] K) = cs_ref07_may.fn d K := by kernel_rfl
  rw [this]; exact h
-- f46 trammel/trammelref01.most
noncomputable def fz_ref01_most : Nat → Bool
  | _ => false
noncomputable def lv_ref01_most : Nat → Option (List Nat)
  | _ => none
noncomputable def gam_ref01_most : FuncId → Option CSpec
  | _ => none
theorem gamOk_ref01_most : EnvFn Try.prog (envOf gam_ref01_most Try.f46.ntmps fz_ref01_most lv_ref01_most) := by
  intro f c h
  unfold envOf gam_ref01_most at h
  simp only at h
  cases h
structure X_ref01_most_2 where
  f0 : Int
  f3 : Int

noncomputable def B_ref01_most_2 {R : Type} (k_exit_0 : Int → Option R) (rec : X_ref01_most_2 → Option R) (x : X_ref01_most_2) : Option R :=
  let v1 := IntKind.i64.wrap ((7 : Int) * x.f3)
  let v2 := decide (v1 < x.f0)
  cond v2
  (let v3 := IntKind.i64.wrap (x.f3 + (1 : Int))
  rec ⟨x.f0, v3⟩)
  (k_exit_0 x.f3)
noncomputable def S_ref01_most_2 (x : X_ref01_most_2) : St := St.ofList [(0, (.v (.int .i64) .s x.f0)), (3, (.v (.int .i64) .s x.f3))]
def out_ref01_most_2 : Ex → List Nat | (.exit 0) => [3] | _ => []
noncomputable def fuel_ref01_most_2 (x : X_ref01_most_2) : Nat := fuel64
noncomputable def lp_ref01_most : Loops := fun i R st K => match i with
  | 2 => match st 0, st 3 with
    | (.v (.int .i64) .s y0), (.v (.int .i64) .s y3) => loopN (B_ref01_most_2 (fun e3 => K (.exit 0) (St.ofList [(3, (.v (.int .i64) .s e3))]))) (fuel_ref01_most_2 ⟨y0, y3⟩) ⟨y0, y3⟩
    | _, _ => none
  | _ => none
noncomputable def c_ref01_most_2 : Code := match loopAt 2 (body Try.f46.body) with | some c => c | none => .skip
theorem step_ref01_most_2 (R : Type) (K : Ex → St → Option R) (rec : St → Option R) (x : X_ref01_most_2) : evC (envOf gam_ref01_most Try.f46.ntmps fz_ref01_most lv_ref01_most) lp_ref01_most c_ref01_most_2 (S_ref01_most_2 x) (fun e st => match e with | .normal => rec (st.only [0, 3]) | e => K e (st.only (out_ref01_most_2 e))) = B_ref01_most_2 (fun e3 => K (.exit 0) (St.ofList [(3, (.v (.int .i64) .s e3))])) (fun x => rec (S_ref01_most_2 x)) x := by kernel_rfl
theorem ok_ref01_most_2 : LoopOk (envOf gam_ref01_most Try.f46.ntmps fz_ref01_most lv_ref01_most) lp_ref01_most c_ref01_most_2 := by
  refine loopOk_of (hd := [0, 3]) (out := out_ref01_most_2) (S := S_ref01_most_2) (fun _ K => B_ref01_most_2 (fun e3 => K (.exit 0) (St.ofList [(3, (.v (.int .i64) .s e3))]))) fuel_ref01_most_2 2 step_ref01_most_2 (fun x => by kernel_rfl) (by kernel_rfl) ?_
  intro R st K r h
  unfold lp_ref01_most at h
  simp only at h
  split at h
  · rename_i y0 y3 hy0 hy3
    refine ⟨⟨y0, y3⟩, ?_, h⟩
    show St.ofList [(0, st 0), (3, st 3)] = _
    rw [hy0, hy3]
    rfl
  · cases h
noncomputable def p_ref01_most {R : Type} (a0 : Int) (K : Int → Option R) : Option R :=
  loopN (B_ref01_most_2 (fun w1 => K w1)) (fuel_ref01_most_2 ⟨a0, (0 : Int)⟩) ⟨a0, (0 : Int)⟩
noncomputable def cs_ref01_most : CSpec := { ins := [(.val (.int .i64) .s)], outs := [((.int .i64), .s)], fn := fun (d : Int × Unit) K => p_ref01_most d.1 fun r0 => K ((r0, ()) : Int × Unit) ((()) : Unit) }
theorem h_ref01_most : Holds Try.prog 46 cs_ref01_most := by
  refine holds_of (env := envOf gam_ref01_most Try.f46.ntmps fz_ref01_most lv_ref01_most) (fn := Try.f46) (code := body Try.f46.body) (rs := [(2, none)]) (lp := lp_ref01_most) mixed (envTyOk _ _ _ _) gamOk_ref01_most Try.func46 (by kernel_rfl) (by kernel_rfl) (by kernel_rfl) (by kernel_rfl) (by kernel_rfl) (loopsOk_of fun c hc => ?_) (by kernel_rfl) ?_
  · rw [show loopsL (body Try.f46.body) = [c_ref01_most_2] by kernel_rfl] at hc
    simp only [List.mem_cons, List.not_mem_nil, or_false] at hc
    rcases hc with rfl
    · exact ok_ref01_most_2
  intro d R K res h
  have : evC (envOf gam_ref01_most Try.f46.ntmps fz_ref01_most lv_ref01_most) lp_ref01_most (body Try.f46.body) (St.start cs_ref01_most.ins d) (retK (envOf gam_ref01_most Try.f46.ntmps fz_ref01_most lv_ref01_most) cs_ref01_most.ins cs_ref01_most.outs [(2, none)] K) = cs_ref01_most.fn d K := by kernel_rfl
  rw [this]; exact h
-- f42 trammel/trammelref01.Read
noncomputable def fz_ref01_Read : Nat → Bool
  | _ => false
noncomputable def lv_ref01_Read : Nat → Option (List Nat)
  | _ => none
noncomputable def gam_ref01_Read : FuncId → Option CSpec
  | 46 => some cs_ref01_most
  | _ => none
theorem gamOk_ref01_Read : EnvFn Try.prog (envOf gam_ref01_Read Try.f42.ntmps fz_ref01_Read lv_ref01_Read) := by
  intro f c h
  unfold envOf gam_ref01_Read at h
  simp only at h
  split at h <;> first | (cases h; done) | (cases h; exact h_ref01_most)
structure X_ref01_Read_10 where
  f0 : List (Int)
  f1 : Int
  f7 : List (Bool)
  f8 : Int
  f9 : Int

noncomputable def B_ref01_Read_10 {R : Type} (k_exit_2 : (List (Int)) → Int → (List (Bool)) → Int → Option R) (rec : X_ref01_Read_10 → Option R) (x : X_ref01_Read_10) : Option R :=
  let v1 := decide (x.f9 < (7 : Int))
  cond v1
  (cond (inB x.f8 (List.length x.f0))
  (let v2 := List.getD x.f0 x.f8.toNat (0 : Int)
  let v3 := IntKind.u64.wrap x.f9
  cond (decide (0 ≤ v3))
  (let v4 := shrI .u8 v2 v3
  cond ((2 : Int) != 0)
  (let v5 := Int.tmod v4 (2 : Int)
  let v6 := v5 == (1 : Int)
  let v7 := List.set (List.replicate 1 false) 0 v6
  cond (decide (List.length x.f7 + List.length v7 ≤ most))
  (let v8 := x.f7 ++ v7
  let v9 := IntKind.i64.wrap (x.f9 + (1 : Int))
  rec ⟨x.f0, x.f1, v8, x.f8, v9⟩) none) none) none) none)
  (k_exit_2 x.f0 x.f1 x.f7 x.f8)
noncomputable def S_ref01_Read_10 (x : X_ref01_Read_10) : St := St.ofList [(0, (.v (.sl 5 (.int .u8)) .s x.f0)), (1, (.v (.int .i64) .s x.f1)), (7, (.v (.sl 4 .bool) (.o .s) x.f7)), (8, (.v (.int .i64) .s x.f8)), (9, (.v (.int .i64) .s x.f9))]
def out_ref01_Read_10 : Ex → List Nat | (.exit 2) => [0, 1, 7, 8] | _ => []
noncomputable def fuel_ref01_Read_10 (x : X_ref01_Read_10) : Nat := fuel64
structure X_ref01_Read_5 where
  f0 : List (Int)
  f1 : Int
  f7 : List (Bool)
  f8 : Int

noncomputable def B_ref01_Read_5 {R : Type} (k_ret : (List (Bool)) → Int → Int → Option R) (k_exit_0 : Option R) (rec : X_ref01_Read_5 → Option R) (x : X_ref01_Read_5) : Option R :=
  p_ref01_most x.f1 fun r1 =>
  let v2 := decide (x.f8 < r1)
  cond v2
  (let v3 := ((List.length x.f0 : Nat) : Int)
  let v4 := decide (x.f8 ≥ v3)
  cond v4
  (k_ret ([] : List (Bool)) (0 : Int) (1 : Int))
  (loopN (B_ref01_Read_10 (fun w5 w6 w7 w8 => cond (inB w8 (List.length w5))
  (let v9 := List.getD w5 w8.toNat (0 : Int)
  let v10 := decide (v9 < (128 : Int))
  cond v10
  (let v11 := IntKind.i64.wrap (w8 + (1 : Int))
  k_ret w7 v11 (0 : Int))
  (let v12 := IntKind.i64.wrap (w8 + (1 : Int))
  rec ⟨w5, w6, w7, v12⟩)) none)) (fuel_ref01_Read_10 ⟨x.f0, x.f1, x.f7, x.f8, (0 : Int)⟩) ⟨x.f0, x.f1, x.f7, x.f8, (0 : Int)⟩))
  (k_exit_0)
noncomputable def S_ref01_Read_5 (x : X_ref01_Read_5) : St := St.ofList [(0, (.v (.sl 5 (.int .u8)) .s x.f0)), (1, (.v (.int .i64) .s x.f1)), (7, (.v (.sl 4 .bool) (.o .s) x.f7)), (8, (.v (.int .i64) .s x.f8))]
def out_ref01_Read_5 : Ex → List Nat | .ret => [4, 5, 6] | (.exit 0) => [] | _ => []
noncomputable def fuel_ref01_Read_5 (x : X_ref01_Read_5) : Nat := fuel64
noncomputable def lp_ref01_Read : Loops := fun i R st K => match i with
  | 10 => match st 0, st 1, st 7, st 8, st 9 with
    | (.v (.sl 5 (.int .u8)) .s y0), (.v (.int .i64) .s y1), (.v (.sl 4 .bool) (.o .s) y7), (.v (.int .i64) .s y8), (.v (.int .i64) .s y9) => loopN (B_ref01_Read_10 (fun e0 e1 e7 e8 => K (.exit 2) (St.ofList [(0, (.v (.sl 5 (.int .u8)) .s e0)), (1, (.v (.int .i64) .s e1)), (7, (.v (.sl 4 .bool) (.o .s) e7)), (8, (.v (.int .i64) .s e8))]))) (fuel_ref01_Read_10 ⟨y0, y1, y7, y8, y9⟩) ⟨y0, y1, y7, y8, y9⟩
    | _, _, _, _, _ => none
  | 5 => match st 0, st 1, st 7, st 8 with
    | (.v (.sl 5 (.int .u8)) .s y0), (.v (.int .i64) .s y1), (.v (.sl 4 .bool) (.o .s) y7), (.v (.int .i64) .s y8) => loopN (B_ref01_Read_5 (fun e4 e5 e6 => K .ret (St.ofList [(4, (.v (.sl 4 .bool) (.o .s) e4)), (5, (.v (.int .i64) .s e5)), (6, (.v (.int .i64) .s e6))])) (K (.exit 0) (St.ofList []))) (fuel_ref01_Read_5 ⟨y0, y1, y7, y8⟩) ⟨y0, y1, y7, y8⟩
    | _, _, _, _ => none
  | _ => none
noncomputable def c_ref01_Read_10 : Code := match loopAt 10 (body Try.f42.body) with | some c => c | none => .skip
theorem step_ref01_Read_10 (R : Type) (K : Ex → St → Option R) (rec : St → Option R) (x : X_ref01_Read_10) : evC (envOf gam_ref01_Read Try.f42.ntmps fz_ref01_Read lv_ref01_Read) lp_ref01_Read c_ref01_Read_10 (S_ref01_Read_10 x) (fun e st => match e with | .normal => rec (st.only [0, 1, 7, 8, 9]) | e => K e (st.only (out_ref01_Read_10 e))) = B_ref01_Read_10 (fun e0 e1 e7 e8 => K (.exit 2) (St.ofList [(0, (.v (.sl 5 (.int .u8)) .s e0)), (1, (.v (.int .i64) .s e1)), (7, (.v (.sl 4 .bool) (.o .s) e7)), (8, (.v (.int .i64) .s e8))])) (fun x => rec (S_ref01_Read_10 x)) x := by kernel_rfl
theorem ok_ref01_Read_10 : LoopOk (envOf gam_ref01_Read Try.f42.ntmps fz_ref01_Read lv_ref01_Read) lp_ref01_Read c_ref01_Read_10 := by
  refine loopOk_of (hd := [0, 1, 7, 8, 9]) (out := out_ref01_Read_10) (S := S_ref01_Read_10) (fun _ K => B_ref01_Read_10 (fun e0 e1 e7 e8 => K (.exit 2) (St.ofList [(0, (.v (.sl 5 (.int .u8)) .s e0)), (1, (.v (.int .i64) .s e1)), (7, (.v (.sl 4 .bool) (.o .s) e7)), (8, (.v (.int .i64) .s e8))]))) fuel_ref01_Read_10 10 step_ref01_Read_10 (fun x => by kernel_rfl) (by kernel_rfl) ?_
  intro R st K r h
  unfold lp_ref01_Read at h
  simp only at h
  split at h
  · rename_i y0 y1 y7 y8 y9 hy0 hy1 hy7 hy8 hy9
    refine ⟨⟨y0, y1, y7, y8, y9⟩, ?_, h⟩
    show St.ofList [(0, st 0), (1, st 1), (7, st 7), (8, st 8), (9, st 9)] = _
    rw [hy0, hy1, hy7, hy8, hy9]
    rfl
  · cases h
noncomputable def c_ref01_Read_5 : Code := match loopAt 5 (body Try.f42.body) with | some c => c | none => .skip
theorem step_ref01_Read_5 (R : Type) (K : Ex → St → Option R) (rec : St → Option R) (x : X_ref01_Read_5) : evC (envOf gam_ref01_Read Try.f42.ntmps fz_ref01_Read lv_ref01_Read) lp_ref01_Read c_ref01_Read_5 (S_ref01_Read_5 x) (fun e st => match e with | .normal => rec (st.only [0, 1, 7, 8]) | e => K e (st.only (out_ref01_Read_5 e))) = B_ref01_Read_5 (fun e4 e5 e6 => K .ret (St.ofList [(4, (.v (.sl 4 .bool) (.o .s) e4)), (5, (.v (.int .i64) .s e5)), (6, (.v (.int .i64) .s e6))])) (K (.exit 0) (St.ofList [])) (fun x => rec (S_ref01_Read_5 x)) x := by kernel_rfl
theorem ok_ref01_Read_5 : LoopOk (envOf gam_ref01_Read Try.f42.ntmps fz_ref01_Read lv_ref01_Read) lp_ref01_Read c_ref01_Read_5 := by
  refine loopOk_of (hd := [0, 1, 7, 8]) (out := out_ref01_Read_5) (S := S_ref01_Read_5) (fun _ K => B_ref01_Read_5 (fun e4 e5 e6 => K .ret (St.ofList [(4, (.v (.sl 4 .bool) (.o .s) e4)), (5, (.v (.int .i64) .s e5)), (6, (.v (.int .i64) .s e6))])) (K (.exit 0) (St.ofList []))) fuel_ref01_Read_5 5 step_ref01_Read_5 (fun x => by kernel_rfl) (by kernel_rfl) ?_
  intro R st K r h
  unfold lp_ref01_Read at h
  simp only at h
  split at h
  · rename_i y0 y1 y7 y8 hy0 hy1 hy7 hy8
    refine ⟨⟨y0, y1, y7, y8⟩, ?_, h⟩
    show St.ofList [(0, st 0), (1, st 1), (7, st 7), (8, st 8)] = _
    rw [hy0, hy1, hy7, hy8]
    rfl
  · cases h
noncomputable def p_ref01_Read {R : Type} (a0 : List (Int)) (a1 : Int) (K : (List (Bool)) → Int → Int → Option R) : Option R :=
  let v1 := decide (a1 < (1 : Int))
  cond v1
  (K ([] : List (Bool)) (0 : Int) (5 : Int))
  (let v2 := decide (a1 > (64 : Int))
  cond v2
  (K ([] : List (Bool)) (0 : Int) (5 : Int))
  (loopN (B_ref01_Read_5 (fun w3 w4 w5 => K w3 w4 w5) (K ([] : List (Bool)) (0 : Int) (2 : Int))) (fuel_ref01_Read_5 ⟨a0, a1, ([] : List (Bool)), (0 : Int)⟩) ⟨a0, a1, ([] : List (Bool)), (0 : Int)⟩))
noncomputable def cs_ref01_Read : CSpec := { ins := [(.val (.sl 5 (.int .u8)) .s), (.val (.int .i64) .s)], outs := [((.sl 4 .bool), (.o .s)), ((.int .i64), .s), ((.int .i64), .s)], fn := fun (d : (List (Int)) × Int × Unit) K => p_ref01_Read d.1 d.2.1 fun r0 r1 r2 => K ((r0, r1, r2, ()) : (List (Bool)) × Int × Int × Unit) ((()) : Unit) }
theorem h_ref01_Read : Holds Try.prog 42 cs_ref01_Read := by
  refine holds_of (env := envOf gam_ref01_Read Try.f42.ntmps fz_ref01_Read lv_ref01_Read) (fn := Try.f42) (code := body Try.f42.body) (rs := [(4, none), (5, none), (6, none)]) (lp := lp_ref01_Read) mixed (envTyOk _ _ _ _) gamOk_ref01_Read Try.func42 (by kernel_rfl) (by kernel_rfl) (by kernel_rfl) (by kernel_rfl) (by kernel_rfl) (loopsOk_of fun c hc => ?_) (by kernel_rfl) ?_
  · rw [show loopsL (body Try.f42.body) = [c_ref01_Read_5, c_ref01_Read_10] by kernel_rfl] at hc
    simp only [List.mem_cons, List.not_mem_nil, or_false] at hc
    rcases hc with rfl | rfl
    · exact ok_ref01_Read_5
    · exact ok_ref01_Read_10
  intro d R K res h
  have : evC (envOf gam_ref01_Read Try.f42.ntmps fz_ref01_Read lv_ref01_Read) lp_ref01_Read (body Try.f42.body) (St.start cs_ref01_Read.ins d) (retK (envOf gam_ref01_Read Try.f42.ntmps fz_ref01_Read lv_ref01_Read) cs_ref01_Read.ins cs_ref01_Read.outs [(4, none), (5, none), (6, none)] K) = cs_ref01_Read.fn d K := by kernel_rfl
  rw [this]; exact h
-- f35 trammel/trammelref01.U
noncomputable def fz_ref01_U : Nat → Bool
  | _ => false
noncomputable def lv_ref01_U : Nat → Option (List Nat)
  | _ => none
noncomputable def gam_ref01_U : FuncId → Option CSpec
  | 42 => some cs_ref01_Read
  | _ => none
theorem gamOk_ref01_U : EnvFn Try.prog (envOf gam_ref01_U Try.f35.ntmps fz_ref01_U lv_ref01_U) := by
  intro f c h
  unfold envOf gam_ref01_U at h
  simp only at h
  split at h <;> first | (cases h; done) | (cases h; exact h_ref01_Read)
structure X_ref01_U_6 where
  f1 : Int
  f7 : List (Bool)
  f8 : Int
  f10 : Int
  f11 : Int

noncomputable def B_ref01_U_6 {R : Type} (k_ret : Int → Int → Int → Option R) (k_exit_0 : Int → Int → Option R) (rec : X_ref01_U_6 → Option R) (x : X_ref01_U_6) : Option R :=
  let v1 := ((List.length x.f7 : Nat) : Int)
  let v2 := decide (x.f11 < v1)
  cond v2
  (cond (inB x.f11 (List.length x.f7))
  (let v3 := (List.getD x.f7 x.f11.toNat false)
  let v4 := !v3
  cond v4
  (let v5 := IntKind.i64.wrap (x.f11 + (1 : Int))
  rec ⟨x.f1, x.f7, x.f8, x.f10, v5⟩)
  (let v6 := decide (x.f11 ≥ x.f1)
  cond v6
  (k_ret (0 : Int) (0 : Int) (2 : Int))
  (let v7 := IntKind.u64.wrap x.f11
  cond (decide (0 ≤ v7))
  (let v8 := shlI .u64 (1 : Int) v7
  let v9 := IntKind.u64.wrap (x.f10 + v8)
  let v10 := IntKind.i64.wrap (x.f11 + (1 : Int))
  rec ⟨x.f1, x.f7, x.f8, v9, v10⟩) none))) none)
  (k_exit_0 x.f8 x.f10)
noncomputable def S_ref01_U_6 (x : X_ref01_U_6) : St := St.ofList [(1, (.v (.int .i64) .s x.f1)), (7, (.v (.sl 4 .bool) (.o .s) x.f7)), (8, (.v (.int .i64) .s x.f8)), (10, (.v (.int .u64) .s x.f10)), (11, (.v (.int .i64) .s x.f11))]
def out_ref01_U_6 : Ex → List Nat | .ret => [4, 5, 6] | (.exit 0) => [8, 10] | _ => []
noncomputable def fuel_ref01_U_6 (x : X_ref01_U_6) : Nat := fuel64
noncomputable def lp_ref01_U : Loops := fun i R st K => match i with
  | 6 => match st 1, st 7, st 8, st 10, st 11 with
    | (.v (.int .i64) .s y1), (.v (.sl 4 .bool) (.o .s) y7), (.v (.int .i64) .s y8), (.v (.int .u64) .s y10), (.v (.int .i64) .s y11) => loopN (B_ref01_U_6 (fun e4 e5 e6 => K .ret (St.ofList [(4, (.v (.int .u64) .s e4)), (5, (.v (.int .i64) .s e5)), (6, (.v (.int .i64) .s e6))])) (fun e8 e10 => K (.exit 0) (St.ofList [(8, (.v (.int .i64) .s e8)), (10, (.v (.int .u64) .s e10))]))) (fuel_ref01_U_6 ⟨y1, y7, y8, y10, y11⟩) ⟨y1, y7, y8, y10, y11⟩
    | _, _, _, _, _ => none
  | _ => none
noncomputable def c_ref01_U_6 : Code := match loopAt 6 (body Try.f35.body) with | some c => c | none => .skip
theorem step_ref01_U_6 (R : Type) (K : Ex → St → Option R) (rec : St → Option R) (x : X_ref01_U_6) : evC (envOf gam_ref01_U Try.f35.ntmps fz_ref01_U lv_ref01_U) lp_ref01_U c_ref01_U_6 (S_ref01_U_6 x) (fun e st => match e with | .normal => rec (st.only [1, 7, 8, 10, 11]) | e => K e (st.only (out_ref01_U_6 e))) = B_ref01_U_6 (fun e4 e5 e6 => K .ret (St.ofList [(4, (.v (.int .u64) .s e4)), (5, (.v (.int .i64) .s e5)), (6, (.v (.int .i64) .s e6))])) (fun e8 e10 => K (.exit 0) (St.ofList [(8, (.v (.int .i64) .s e8)), (10, (.v (.int .u64) .s e10))])) (fun x => rec (S_ref01_U_6 x)) x := by kernel_rfl
theorem ok_ref01_U_6 : LoopOk (envOf gam_ref01_U Try.f35.ntmps fz_ref01_U lv_ref01_U) lp_ref01_U c_ref01_U_6 := by
  refine loopOk_of (hd := [1, 7, 8, 10, 11]) (out := out_ref01_U_6) (S := S_ref01_U_6) (fun _ K => B_ref01_U_6 (fun e4 e5 e6 => K .ret (St.ofList [(4, (.v (.int .u64) .s e4)), (5, (.v (.int .i64) .s e5)), (6, (.v (.int .i64) .s e6))])) (fun e8 e10 => K (.exit 0) (St.ofList [(8, (.v (.int .i64) .s e8)), (10, (.v (.int .u64) .s e10))]))) fuel_ref01_U_6 6 step_ref01_U_6 (fun x => by kernel_rfl) (by kernel_rfl) ?_
  intro R st K r h
  unfold lp_ref01_U at h
  simp only at h
  split at h
  · rename_i y1 y7 y8 y10 y11 hy1 hy7 hy8 hy10 hy11
    refine ⟨⟨y1, y7, y8, y10, y11⟩, ?_, h⟩
    show St.ofList [(1, st 1), (7, st 7), (8, st 8), (10, st 10), (11, st 11)] = _
    rw [hy1, hy7, hy8, hy10, hy11]
    rfl
  · cases h
noncomputable def p_ref01_U {R : Type} (a0 : List (Int)) (a1 : Int) (K : Int → Int → Int → Option R) : Option R :=
  p_ref01_Read a0 a1 fun r1 r2 r3 =>
  let v4 := r3 != (0 : Int)
  cond v4
  (K (0 : Int) (0 : Int) r3)
  (loopN (B_ref01_U_6 (fun w5 w6 w7 => K w5 w6 w7) (fun w8 w9 => K w9 w8 (0 : Int))) (fuel_ref01_U_6 ⟨a1, r1, r2, (0 : Int), (0 : Int)⟩) ⟨a1, r1, r2, (0 : Int), (0 : Int)⟩)
noncomputable def cs_ref01_U : CSpec := { ins := [(.val (.sl 5 (.int .u8)) .s), (.val (.int .i64) .s)], outs := [((.int .u64), .s), ((.int .i64), .s), ((.int .i64), .s)], fn := fun (d : (List (Int)) × Int × Unit) K => p_ref01_U d.1 d.2.1 fun r0 r1 r2 => K ((r0, r1, r2, ()) : Int × Int × Int × Unit) ((()) : Unit) }
theorem h_ref01_U : Holds Try.prog 35 cs_ref01_U := by
  refine holds_of (env := envOf gam_ref01_U Try.f35.ntmps fz_ref01_U lv_ref01_U) (fn := Try.f35) (code := body Try.f35.body) (rs := [(4, none), (5, none), (6, none)]) (lp := lp_ref01_U) mixed (envTyOk _ _ _ _) gamOk_ref01_U Try.func35 (by kernel_rfl) (by kernel_rfl) (by kernel_rfl) (by kernel_rfl) (by kernel_rfl) (loopsOk_of fun c hc => ?_) (by kernel_rfl) ?_
  · rw [show loopsL (body Try.f35.body) = [c_ref01_U_6] by kernel_rfl] at hc
    simp only [List.mem_cons, List.not_mem_nil, or_false] at hc
    rcases hc with rfl
    · exact ok_ref01_U_6
  intro d R K res h
  have : evC (envOf gam_ref01_U Try.f35.ntmps fz_ref01_U lv_ref01_U) lp_ref01_U (body Try.f35.body) (St.start cs_ref01_U.ins d) (retK (envOf gam_ref01_U Try.f35.ntmps fz_ref01_U lv_ref01_U) cs_ref01_U.ins cs_ref01_U.outs [(4, none), (5, none), (6, none)] K) = cs_ref01_U.fn d K := by kernel_rfl
  rw [this]; exact h
-- f25 trammel/trammelref01.Copy
noncomputable def fz_ref01_Copy : Nat → Bool
  | _ => false
noncomputable def lv_ref01_Copy : Nat → Option (List Nat)
  | _ => none
noncomputable def gam_ref01_Copy : FuncId → Option CSpec
  | _ => none
theorem gamOk_ref01_Copy : EnvFn Try.prog (envOf gam_ref01_Copy Try.f25.ntmps fz_ref01_Copy lv_ref01_Copy) := by
  intro f c h
  unfold envOf gam_ref01_Copy at h
  simp only at h
  cases h
noncomputable def p_ref01_Copy {R : Type} (a0 : List (Int)) (K : (List (Int)) → Option R) : Option R :=
  let v1 := List.replicate 0 (0 : Int)
  cond (decide (List.length v1 + List.length a0 ≤ most))
  (let v2 := v1 ++ a0
  K v2) none
noncomputable def cs_ref01_Copy : CSpec := { ins := [(.val (.sl 5 (.int .u8)) .s)], outs := [((.sl 5 (.int .u8)), (.o .s))], fn := fun (d : (List (Int)) × Unit) K => p_ref01_Copy d.1 fun r0 => K ((r0, ()) : (List (Int)) × Unit) ((()) : Unit) }
theorem h_ref01_Copy : Holds Try.prog 25 cs_ref01_Copy := by
  refine holds_of (env := envOf gam_ref01_Copy Try.f25.ntmps fz_ref01_Copy lv_ref01_Copy) (fn := Try.f25) (code := body Try.f25.body) (rs := [(2, none)]) (lp := lp0) mixed (envTyOk _ _ _ _) gamOk_ref01_Copy Try.func25 (by kernel_rfl) (by kernel_rfl) (by kernel_rfl) (by kernel_rfl) (by kernel_rfl) (loopsOk_none (by kernel_rfl)) (by kernel_rfl) ?_
  intro d R K res h
  have : evC (envOf gam_ref01_Copy Try.f25.ntmps fz_ref01_Copy lv_ref01_Copy) lp0 (body Try.f25.body) (St.start cs_ref01_Copy.ins d) (retK (envOf gam_ref01_Copy Try.f25.ntmps fz_ref01_Copy lv_ref01_Copy) cs_ref01_Copy.ins cs_ref01_Copy.outs [(2, none)] K) = cs_ref01_Copy.fn d K := by kernel_rfl
  rw [this]; exact h
-- f15 trammel/trammelref07.Split
noncomputable def fz_ref07_Split : Nat → Bool
  | 42 => true
  | 50 => true
  | 79 => true
  | _ => false
noncomputable def lv_ref07_Split : Nat → Option (List Nat)
  | 0 => some [0]
  | 1 => some [0]
  | 2 => some []
  | 3 => some [0]
  | 4 => some [0, 4]
  | 5 => some [0, 4, 5]
  | 6 => some [0, 4, 5]
  | 7 => some [0, 4, 5]
  | 8 => some []
  | 9 => some [0, 4, 5]
  | 10 => some []
  | 11 => some [0]
  | 12 => some [0, 6]
  | 13 => some [0, 6, 7]
  | 14 => some [0, 6, 7]
  | 15 => some [0, 6, 7, 8]
  | 16 => some [6]
  | 17 => some [0, 6, 7, 8]
  | 18 => some [0, 6, 7, 8, 9, 10, 11]
  | 19 => some [6, 11]
  | 20 => some [0, 6, 7, 8, 9, 10]
  | 21 => some [0, 6, 7, 8, 9]
  | 22 => some [6]
  | 23 => some [0, 6, 7, 8, 9]
  | 24 => some [0, 6, 7, 9]
  | 25 => some [6]
  | _ => none
noncomputable def gam_ref07_Split : FuncId → Option CSpec
  | 25 => some cs_ref01_Copy
  | 34 => some cs_ref07_may
  | 35 => some cs_ref01_U
  | _ => none
theorem gamOk_ref07_Split : EnvFn Try.prog (envOf gam_ref07_Split Try.f15.ntmps fz_ref07_Split lv_ref07_Split) := by
  intro f c h
  unfold envOf gam_ref07_Split at h
  simp only at h
  split at h <;> first | (cases h; done) | (cases h; exact h_ref01_Copy) | (cases h; exact h_ref07_may) | (cases h; exact h_ref01_U)
structure X_ref07_Split_13 where
  f0 : List (Int)
  f6 : List ((Int) × (List (Int)) × Unit)
  f7 : Int

noncomputable def B_ref07_Split_13 {R : Type} (k_ret : (List ((Int) × (List (Int)) × Unit)) → Int → Option R) (k_exit_2 : (List ((Int) × (List (Int)) × Unit)) → Option R) (rec : X_ref07_Split_13 → Option R) (x : X_ref07_Split_13) : Option R :=
  let v1 := ((List.length x.f0 : Nat) : Int)
  let v2 := decide (x.f7 < v1)
  cond v2
  (cond (inB x.f7 (List.length x.f0))
  (let v3 := List.getD x.f0 x.f7.toNat (0 : Int)
  let v4 := IntKind.i64.wrap v3
  p_ref07_may x.f6 v4 fun r5 =>
  let v6 := !r5
  cond v6
  (k_ret x.f6 (2 : Int))
  (let v7 := IntKind.i64.wrap (x.f7 + (1 : Int))
  cond (inR v7 ((List.length x.f0 : Nat) : Int) (List.length x.f0))
  (let v8 := rng x.f0 v7 ((List.length x.f0 : Nat) : Int)
  p_ref01_U v8 (32 : Int) fun r9 r10 r11 =>
  let v12 := r11 != (0 : Int)
  cond v12
  (k_ret x.f6 r11)
  (let v13 := IntKind.i64.wrap ((1 : Int) + r10)
  let v14 := IntKind.i64.wrap (x.f7 + v13)
  let v15 := ((List.length x.f0 : Nat) : Int)
  let v16 := IntKind.i64.wrap (v15 - v14)
  let v17 := IntKind.u64.wrap v16
  let v18 := decide (v17 < r9)
  cond v18
  (k_ret x.f6 (1 : Int))
  (let v19 := IntKind.i64.wrap r9
  let v20 := IntKind.i64.wrap (v14 + v19)
  cond (inR v14 v20 (List.length x.f0))
  (let v21 := rng x.f0 v14 v20
  p_ref01_Copy v21 fun r22 =>
  let v23 := List.set (List.replicate 1 ((0 : Int), (([] : List (Int)), ()))) 0 (v4, (r22, ()))
  cond (decide (List.length x.f6 + List.length v23 ≤ most))
  (let v24 := x.f6 ++ v23
  let v25 := IntKind.i64.wrap r9
  let v26 := IntKind.i64.wrap (v14 + v25)
  rec ⟨x.f0, v24, v26⟩) none) none))) none)) none)
  (k_exit_2 x.f6)
noncomputable def S_ref07_Split_13 (x : X_ref07_Split_13) : St := St.ofList [(0, (.v (.sl 5 (.int .u8)) .s x.f0)), (6, (.v (.sl 38 (.pair (.int .i64) (.pair (.sl 5 (.int .u8)) .unit))) (.o .s) x.f6)), (7, (.v (.int .i64) .s x.f7))]
def out_ref07_Split_13 : Ex → List Nat | .ret => [2, 3] | (.exit 2) => [6] | _ => []
noncomputable def fuel_ref07_Split_13 (x : X_ref07_Split_13) : Nat := fuel64
structure X_ref07_Split_5 where
  f0 : List (Int)
  f4 : List UInt8
  f5 : Int

noncomputable def B_ref07_Split_5 {R : Type} (k_ret : (List ((Int) × (List (Int)) × Unit)) → Int → Option R) (k_exit_0 : (List (Int)) → Option R) (rec : X_ref07_Split_5 → Option R) (x : X_ref07_Split_5) : Option R :=
  let v1 := decide (x.f5 < (8 : Int))
  cond v1
  (let v2 := ((List.length x.f0 : Nat) : Int)
  let v3 := x.f5 == v2
  cond v3
  (k_ret ([] : List ((Int) × (List (Int)) × Unit)) (1 : Int))
  (cond (inB x.f5 (List.length x.f0))
  (let v4 := List.getD x.f0 x.f5.toNat (0 : Int)
  cond (inB x.f5 (List.length x.f4))
  (let v5 := bt x.f4 x.f5
  let v6 := v4 != v5
  cond v6
  (k_ret ([] : List ((Int) × (List (Int)) × Unit)) (2 : Int))
  (let v7 := IntKind.i64.wrap (x.f5 + (1 : Int))
  rec ⟨x.f0, x.f4, v7⟩)) none) none))
  (k_exit_0 x.f0)
noncomputable def S_ref07_Split_5 (x : X_ref07_Split_5) : St := St.ofList [(0, (.v (.sl 5 (.int .u8)) .s x.f0)), (4, (.v .str .s x.f4)), (5, (.v (.int .i64) .s x.f5))]
def out_ref07_Split_5 : Ex → List Nat | .ret => [2, 3] | (.exit 0) => [0] | _ => []
noncomputable def fuel_ref07_Split_5 (x : X_ref07_Split_5) : Nat := fuel64
noncomputable def lp_ref07_Split : Loops := fun i R st K => match i with
  | 13 => match st 0, st 6, st 7 with
    | (.v (.sl 5 (.int .u8)) .s y0), (.v (.sl 38 (.pair (.int .i64) (.pair (.sl 5 (.int .u8)) .unit))) (.o .s) y6), (.v (.int .i64) .s y7) => loopN (B_ref07_Split_13 (fun e2 e3 => K .ret (St.ofList [(2, (.v (.sl 38 (.pair (.int .i64) (.pair (.sl 5 (.int .u8)) .unit))) (.o .s) e2)), (3, (.v (.int .i64) .s e3))])) (fun e6 => K (.exit 2) (St.ofList [(6, (.v (.sl 38 (.pair (.int .i64) (.pair (.sl 5 (.int .u8)) .unit))) (.o .s) e6))]))) (fuel_ref07_Split_13 ⟨y0, y6, y7⟩) ⟨y0, y6, y7⟩
    | _, _, _ => none
  | 5 => match st 0, st 4, st 5 with
    | (.v (.sl 5 (.int .u8)) .s y0), (.v .str .s y4), (.v (.int .i64) .s y5) => loopN (B_ref07_Split_5 (fun e2 e3 => K .ret (St.ofList [(2, (.v (.sl 38 (.pair (.int .i64) (.pair (.sl 5 (.int .u8)) .unit))) (.o .s) e2)), (3, (.v (.int .i64) .s e3))])) (fun e0 => K (.exit 0) (St.ofList [(0, (.v (.sl 5 (.int .u8)) .s e0))]))) (fuel_ref07_Split_5 ⟨y0, y4, y5⟩) ⟨y0, y4, y5⟩
    | _, _, _ => none
  | _ => none
noncomputable def c_ref07_Split_13 : Code := match loopAt 13 (body Try.f15.body) with | some c => c | none => .skip
theorem step_ref07_Split_13 (R : Type) (K : Ex → St → Option R) (rec : St → Option R) (x : X_ref07_Split_13) : evC (envOf gam_ref07_Split Try.f15.ntmps fz_ref07_Split lv_ref07_Split) lp_ref07_Split c_ref07_Split_13 (S_ref07_Split_13 x) (fun e st => match e with | .normal => rec (st.only [0, 6, 7]) | e => K e (st.only (out_ref07_Split_13 e))) = B_ref07_Split_13 (fun e2 e3 => K .ret (St.ofList [(2, (.v (.sl 38 (.pair (.int .i64) (.pair (.sl 5 (.int .u8)) .unit))) (.o .s) e2)), (3, (.v (.int .i64) .s e3))])) (fun e6 => K (.exit 2) (St.ofList [(6, (.v (.sl 38 (.pair (.int .i64) (.pair (.sl 5 (.int .u8)) .unit))) (.o .s) e6))])) (fun x => rec (S_ref07_Split_13 x)) x := by kernel_rfl
theorem ok_ref07_Split_13 : LoopOk (envOf gam_ref07_Split Try.f15.ntmps fz_ref07_Split lv_ref07_Split) lp_ref07_Split c_ref07_Split_13 := by
  refine loopOk_of (hd := [0, 6, 7]) (out := out_ref07_Split_13) (S := S_ref07_Split_13) (fun _ K => B_ref07_Split_13 (fun e2 e3 => K .ret (St.ofList [(2, (.v (.sl 38 (.pair (.int .i64) (.pair (.sl 5 (.int .u8)) .unit))) (.o .s) e2)), (3, (.v (.int .i64) .s e3))])) (fun e6 => K (.exit 2) (St.ofList [(6, (.v (.sl 38 (.pair (.int .i64) (.pair (.sl 5 (.int .u8)) .unit))) (.o .s) e6))]))) fuel_ref07_Split_13 13 step_ref07_Split_13 (fun x => by kernel_rfl) (by kernel_rfl) ?_
  intro R st K r h
  unfold lp_ref07_Split at h
  simp only at h
  split at h
  · rename_i y0 y6 y7 hy0 hy6 hy7
    refine ⟨⟨y0, y6, y7⟩, ?_, h⟩
    show St.ofList [(0, st 0), (6, st 6), (7, st 7)] = _
    rw [hy0, hy6, hy7]
    rfl
  · cases h
noncomputable def c_ref07_Split_5 : Code := match loopAt 5 (body Try.f15.body) with | some c => c | none => .skip
theorem step_ref07_Split_5 (R : Type) (K : Ex → St → Option R) (rec : St → Option R) (x : X_ref07_Split_5) : evC (envOf gam_ref07_Split Try.f15.ntmps fz_ref07_Split lv_ref07_Split) lp_ref07_Split c_ref07_Split_5 (S_ref07_Split_5 x) (fun e st => match e with | .normal => rec (st.only [0, 4, 5]) | e => K e (st.only (out_ref07_Split_5 e))) = B_ref07_Split_5 (fun e2 e3 => K .ret (St.ofList [(2, (.v (.sl 38 (.pair (.int .i64) (.pair (.sl 5 (.int .u8)) .unit))) (.o .s) e2)), (3, (.v (.int .i64) .s e3))])) (fun e0 => K (.exit 0) (St.ofList [(0, (.v (.sl 5 (.int .u8)) .s e0))])) (fun x => rec (S_ref07_Split_5 x)) x := by kernel_rfl
theorem ok_ref07_Split_5 : LoopOk (envOf gam_ref07_Split Try.f15.ntmps fz_ref07_Split lv_ref07_Split) lp_ref07_Split c_ref07_Split_5 := by
  refine loopOk_of (hd := [0, 4, 5]) (out := out_ref07_Split_5) (S := S_ref07_Split_5) (fun _ K => B_ref07_Split_5 (fun e2 e3 => K .ret (St.ofList [(2, (.v (.sl 38 (.pair (.int .i64) (.pair (.sl 5 (.int .u8)) .unit))) (.o .s) e2)), (3, (.v (.int .i64) .s e3))])) (fun e0 => K (.exit 0) (St.ofList [(0, (.v (.sl 5 (.int .u8)) .s e0))]))) fuel_ref07_Split_5 5 step_ref07_Split_5 (fun x => by kernel_rfl) (by kernel_rfl) ?_
  intro R st K r h
  unfold lp_ref07_Split at h
  simp only at h
  split at h
  · rename_i y0 y4 y5 hy0 hy4 hy5
    refine ⟨⟨y0, y4, y5⟩, ?_, h⟩
    show St.ofList [(0, st 0), (4, st 4), (5, st 5)] = _
    rw [hy0, hy4, hy5]
    rfl
  · cases h
noncomputable def p_ref07_Split {R : Type} (a0 : List (Int)) (K : (List ((Int) × (List (Int)) × Unit)) → Int → Option R) : Option R :=
  let v1 := ((List.length a0 : Nat) : Int)
  let v2 := decide (v1 > (65536 : Int))
  cond v2
  (K ([] : List ((Int) × (List (Int)) × Unit)) (4 : Int))
  (let v3 := ([0, 97, 115, 109, 1, 0, 0, 0] : List UInt8)
  loopN (B_ref07_Split_5 (fun w4 w5 => K w4 w5) (fun w6 => loopN (B_ref07_Split_13 (fun w7 w8 => K w7 w8) (fun w9 => K w9 (0 : Int))) (fuel_ref07_Split_13 ⟨w6, ([] : List ((Int) × (List (Int)) × Unit)), (8 : Int)⟩) ⟨w6, ([] : List ((Int) × (List (Int)) × Unit)), (8 : Int)⟩)) (fuel_ref07_Split_5 ⟨a0, v3, (0 : Int)⟩) ⟨a0, v3, (0 : Int)⟩)
noncomputable def cs_ref07_Split : CSpec := { ins := [(.val (.sl 5 (.int .u8)) .s)], outs := [((.sl 38 (.pair (.int .i64) (.pair (.sl 5 (.int .u8)) .unit))), (.o .s)), ((.int .i64), .s)], fn := fun (d : (List (Int)) × Unit) K => p_ref07_Split d.1 fun r0 r1 => K ((r0, r1, ()) : (List ((Int) × (List (Int)) × Unit)) × Int × Unit) ((()) : Unit) }
theorem h_ref07_Split : Holds Try.prog 15 cs_ref07_Split := by
  refine holds_of (env := envOf gam_ref07_Split Try.f15.ntmps fz_ref07_Split lv_ref07_Split) (fn := Try.f15) (code := body Try.f15.body) (rs := [(2, none), (3, none)]) (lp := lp_ref07_Split) mixed (envTyOk _ _ _ _) gamOk_ref07_Split Try.func15 (by kernel_rfl) (by kernel_rfl) (by kernel_rfl) (by kernel_rfl) (by kernel_rfl) (loopsOk_of fun c hc => ?_) (by kernel_rfl) ?_
  · rw [show loopsL (body Try.f15.body) = [c_ref07_Split_5, c_ref07_Split_13] by kernel_rfl] at hc
    simp only [List.mem_cons, List.not_mem_nil, or_false] at hc
    rcases hc with rfl | rfl
    · exact ok_ref07_Split_5
    · exact ok_ref07_Split_13
  intro d R K res h
  have : evC (envOf gam_ref07_Split Try.f15.ntmps fz_ref07_Split lv_ref07_Split) lp_ref07_Split (body Try.f15.body) (St.start cs_ref07_Split.ins d) (retK (envOf gam_ref07_Split Try.f15.ntmps fz_ref07_Split lv_ref07_Split) cs_ref07_Split.ins cs_ref07_Split.outs [(2, none), (3, none)] K) = cs_ref07_Split.fn d K := by kernel_rfl
  rw [this]; exact h
-- f17 trammel/trammellaw07.told
noncomputable def fz_law07_told : Nat → Bool
  | _ => false
noncomputable def lv_law07_told : Nat → Option (List Nat)
  | _ => none
noncomputable def gam_law07_told : FuncId → Option CSpec
  | _ => none
theorem gamOk_law07_told : EnvFn Try.prog (envOf gam_law07_told Try.f17.ntmps fz_law07_told lv_law07_told) := by
  intro f c h
  unfold envOf gam_law07_told at h
  simp only at h
  cases h
structure X_law07_told_3 where
  f0 : List ((Int) × (List (Int)) × Unit)
  f3 : List ((Int) × (List (Int)) × Unit)
  f4 : Int

noncomputable def B_law07_told_3 {R : Type} (k_exit_0 : (List ((Int) × (List (Int)) × Unit)) → Option R) (rec : X_law07_told_3 → Option R) (x : X_law07_told_3) : Option R :=
  let v1 := ((List.length x.f0 : Nat) : Int)
  let v2 := decide (x.f4 < v1)
  cond v2
  (cond (inB x.f4 (List.length x.f0))
  (let v3 := List.getD x.f0 x.f4.toNat ((0 : Int), (([] : List (Int)), ()))
  cond (inB x.f4 (List.length x.f0))
  (let v4 := List.getD x.f0 x.f4.toNat ((0 : Int), (([] : List (Int)), ()))
  let v5 := List.set (List.replicate 1 ((0 : Int), (([] : List (Int)), ()))) 0 (v3.1, (v4.2.1, ()))
  cond (decide (List.length x.f3 + List.length v5 ≤ most))
  (let v6 := x.f3 ++ v5
  let v7 := IntKind.i64.wrap (x.f4 + (1 : Int))
  rec ⟨x.f0, v6, v7⟩) none) none) none)
  (k_exit_0 x.f3)
noncomputable def S_law07_told_3 (x : X_law07_told_3) : St := St.ofList [(0, (.v (.sl 39 (.pair (.int .i64) (.pair (.sl 5 (.int .u8)) .unit))) .s x.f0)), (3, (.v (.sl 38 (.pair (.int .i64) (.pair (.sl 5 (.int .u8)) .unit))) (.o .s) x.f3)), (4, (.v (.int .i64) .s x.f4))]
def out_law07_told_3 : Ex → List Nat | (.exit 0) => [3] | _ => []
noncomputable def fuel_law07_told_3 (x : X_law07_told_3) : Nat := fuel64
noncomputable def lp_law07_told : Loops := fun i R st K => match i with
  | 3 => match st 0, st 3, st 4 with
    | (.v (.sl 39 (.pair (.int .i64) (.pair (.sl 5 (.int .u8)) .unit))) .s y0), (.v (.sl 38 (.pair (.int .i64) (.pair (.sl 5 (.int .u8)) .unit))) (.o .s) y3), (.v (.int .i64) .s y4) => loopN (B_law07_told_3 (fun e3 => K (.exit 0) (St.ofList [(3, (.v (.sl 38 (.pair (.int .i64) (.pair (.sl 5 (.int .u8)) .unit))) (.o .s) e3))]))) (fuel_law07_told_3 ⟨y0, y3, y4⟩) ⟨y0, y3, y4⟩
    | _, _, _ => none
  | _ => none
noncomputable def c_law07_told_3 : Code := match loopAt 3 (body Try.f17.body) with | some c => c | none => .skip
theorem step_law07_told_3 (R : Type) (K : Ex → St → Option R) (rec : St → Option R) (x : X_law07_told_3) : evC (envOf gam_law07_told Try.f17.ntmps fz_law07_told lv_law07_told) lp_law07_told c_law07_told_3 (S_law07_told_3 x) (fun e st => match e with | .normal => rec (st.only [0, 3, 4]) | e => K e (st.only (out_law07_told_3 e))) = B_law07_told_3 (fun e3 => K (.exit 0) (St.ofList [(3, (.v (.sl 38 (.pair (.int .i64) (.pair (.sl 5 (.int .u8)) .unit))) (.o .s) e3))])) (fun x => rec (S_law07_told_3 x)) x := by kernel_rfl
theorem ok_law07_told_3 : LoopOk (envOf gam_law07_told Try.f17.ntmps fz_law07_told lv_law07_told) lp_law07_told c_law07_told_3 := by
  refine loopOk_of (hd := [0, 3, 4]) (out := out_law07_told_3) (S := S_law07_told_3) (fun _ K => B_law07_told_3 (fun e3 => K (.exit 0) (St.ofList [(3, (.v (.sl 38 (.pair (.int .i64) (.pair (.sl 5 (.int .u8)) .unit))) (.o .s) e3))]))) fuel_law07_told_3 3 step_law07_told_3 (fun x => by kernel_rfl) (by kernel_rfl) ?_
  intro R st K r h
  unfold lp_law07_told at h
  simp only at h
  split at h
  · rename_i y0 y3 y4 hy0 hy3 hy4
    refine ⟨⟨y0, y3, y4⟩, ?_, h⟩
    show St.ofList [(0, st 0), (3, st 3), (4, st 4)] = _
    rw [hy0, hy3, hy4]
    rfl
  · cases h
noncomputable def p_law07_told {R : Type} (a0 : List ((Int) × (List (Int)) × Unit)) (K : (List ((Int) × (List (Int)) × Unit)) → Option R) : Option R :=
  loopN (B_law07_told_3 (fun w1 => K w1)) (fuel_law07_told_3 ⟨a0, ([] : List ((Int) × (List (Int)) × Unit)), (0 : Int)⟩) ⟨a0, ([] : List ((Int) × (List (Int)) × Unit)), (0 : Int)⟩
noncomputable def cs_law07_told : CSpec := { ins := [(.val (.sl 39 (.pair (.int .i64) (.pair (.sl 5 (.int .u8)) .unit))) .s)], outs := [((.sl 38 (.pair (.int .i64) (.pair (.sl 5 (.int .u8)) .unit))), (.o .s))], fn := fun (d : (List ((Int) × (List (Int)) × Unit)) × Unit) K => p_law07_told d.1 fun r0 => K ((r0, ()) : (List ((Int) × (List (Int)) × Unit)) × Unit) ((()) : Unit) }
theorem h_law07_told : Holds Try.prog 17 cs_law07_told := by
  refine holds_of (env := envOf gam_law07_told Try.f17.ntmps fz_law07_told lv_law07_told) (fn := Try.f17) (code := body Try.f17.body) (rs := [(2, none)]) (lp := lp_law07_told) mixed (envTyOk _ _ _ _) gamOk_law07_told Try.func17 (by kernel_rfl) (by kernel_rfl) (by kernel_rfl) (by kernel_rfl) (by kernel_rfl) (loopsOk_of fun c hc => ?_) (by kernel_rfl) ?_
  · rw [show loopsL (body Try.f17.body) = [c_law07_told_3] by kernel_rfl] at hc
    simp only [List.mem_cons, List.not_mem_nil, or_false] at hc
    rcases hc with rfl
    · exact ok_law07_told_3
  intro d R K res h
  have : evC (envOf gam_law07_told Try.f17.ntmps fz_law07_told lv_law07_told) lp_law07_told (body Try.f17.body) (St.start cs_law07_told.ins d) (retK (envOf gam_law07_told Try.f17.ntmps fz_law07_told lv_law07_told) cs_law07_told.ins cs_law07_told.outs [(2, none)] K) = cs_law07_told.fn d K := by kernel_rfl
  rw [this]; exact h
-- f16 trammel/trammelref07.Same
noncomputable def fz_ref07_Same : Nat → Bool
  | _ => false
noncomputable def lv_ref07_Same : Nat → Option (List Nat)
  | _ => none
noncomputable def gam_ref07_Same : FuncId → Option CSpec
  | 21 => some cs_ref01_Same
  | _ => none
theorem gamOk_ref07_Same : EnvFn Try.prog (envOf gam_ref07_Same Try.f16.ntmps fz_ref07_Same lv_ref07_Same) := by
  intro f c h
  unfold envOf gam_ref07_Same at h
  simp only at h
  split at h <;> first | (cases h; done) | (cases h; exact h_ref01_Same)
structure X_ref07_Same_4 where
  f0 : List ((Int) × (List (Int)) × Unit)
  f1 : List ((Int) × (List (Int)) × Unit)
  f5 : Int

noncomputable def B_ref07_Same_4 {R : Type} (k_ret : Bool → Option R) (k_exit_0 : Option R) (rec : X_ref07_Same_4 → Option R) (x : X_ref07_Same_4) : Option R :=
  let v1 := ((List.length x.f0 : Nat) : Int)
  let v2 := decide (x.f5 < v1)
  cond v2
  (cond (inB x.f5 (List.length x.f0))
  (let v3 := List.getD x.f0 x.f5.toNat ((0 : Int), (([] : List (Int)), ()))
  cond (inB x.f5 (List.length x.f1))
  (let v4 := List.getD x.f1 x.f5.toNat ((0 : Int), (([] : List (Int)), ()))
  let v5 := v3.1 != v4.1
  cond v5
  (k_ret false)
  (cond (inB x.f5 (List.length x.f0))
  (let v6 := List.getD x.f0 x.f5.toNat ((0 : Int), (([] : List (Int)), ()))
  cond (inB x.f5 (List.length x.f1))
  (let v7 := List.getD x.f1 x.f5.toNat ((0 : Int), (([] : List (Int)), ()))
  p_ref01_Same v6.2.1 v7.2.1 fun r8 =>
  let v9 := !r8
  cond v9
  (k_ret false)
  (let v10 := IntKind.i64.wrap (x.f5 + (1 : Int))
  rec ⟨x.f0, x.f1, v10⟩)) none) none)) none) none)
  (k_exit_0)
noncomputable def S_ref07_Same_4 (x : X_ref07_Same_4) : St := St.ofList [(0, (.v (.sl 38 (.pair (.int .i64) (.pair (.sl 5 (.int .u8)) .unit))) .s x.f0)), (1, (.v (.sl 38 (.pair (.int .i64) (.pair (.sl 5 (.int .u8)) .unit))) .s x.f1)), (5, (.v (.int .i64) .s x.f5))]
def out_ref07_Same_4 : Ex → List Nat | .ret => [4] | (.exit 0) => [] | _ => []
noncomputable def fuel_ref07_Same_4 (x : X_ref07_Same_4) : Nat := fuel64
noncomputable def lp_ref07_Same : Loops := fun i R st K => match i with
  | 4 => match st 0, st 1, st 5 with
    | (.v (.sl 38 (.pair (.int .i64) (.pair (.sl 5 (.int .u8)) .unit))) .s y0), (.v (.sl 38 (.pair (.int .i64) (.pair (.sl 5 (.int .u8)) .unit))) .s y1), (.v (.int .i64) .s y5) => loopN (B_ref07_Same_4 (fun e4 => K .ret (St.ofList [(4, (.v .bool .s e4))])) (K (.exit 0) (St.ofList []))) (fuel_ref07_Same_4 ⟨y0, y1, y5⟩) ⟨y0, y1, y5⟩
    | _, _, _ => none
  | _ => none
noncomputable def c_ref07_Same_4 : Code := match loopAt 4 (body Try.f16.body) with | some c => c | none => .skip
theorem step_ref07_Same_4 (R : Type) (K : Ex → St → Option R) (rec : St → Option R) (x : X_ref07_Same_4) : evC (envOf gam_ref07_Same Try.f16.ntmps fz_ref07_Same lv_ref07_Same) lp_ref07_Same c_ref07_Same_4 (S_ref07_Same_4 x) (fun e st => match e with | .normal => rec (st.only [0, 1, 5]) | e => K e (st.only (out_ref07_Same_4 e))) = B_ref07_Same_4 (fun e4 => K .ret (St.ofList [(4, (.v .bool .s e4))])) (K (.exit 0) (St.ofList [])) (fun x => rec (S_ref07_Same_4 x)) x := by kernel_rfl
theorem ok_ref07_Same_4 : LoopOk (envOf gam_ref07_Same Try.f16.ntmps fz_ref07_Same lv_ref07_Same) lp_ref07_Same c_ref07_Same_4 := by
  refine loopOk_of (hd := [0, 1, 5]) (out := out_ref07_Same_4) (S := S_ref07_Same_4) (fun _ K => B_ref07_Same_4 (fun e4 => K .ret (St.ofList [(4, (.v .bool .s e4))])) (K (.exit 0) (St.ofList []))) fuel_ref07_Same_4 4 step_ref07_Same_4 (fun x => by kernel_rfl) (by kernel_rfl) ?_
  intro R st K r h
  unfold lp_ref07_Same at h
  simp only at h
  split at h
  · rename_i y0 y1 y5 hy0 hy1 hy5
    refine ⟨⟨y0, y1, y5⟩, ?_, h⟩
    show St.ofList [(0, st 0), (1, st 1), (5, st 5)] = _
    rw [hy0, hy1, hy5]
    rfl
  · cases h
noncomputable def p_ref07_Same {R : Type} (a0 : List ((Int) × (List (Int)) × Unit)) (a1 : List ((Int) × (List (Int)) × Unit)) (K : Bool → Option R) : Option R :=
  let v1 := ((List.length a0 : Nat) : Int)
  let v2 := ((List.length a1 : Nat) : Int)
  let v3 := v1 != v2
  cond v3
  (K false)
  (loopN (B_ref07_Same_4 (fun w4 => K w4) (K true)) (fuel_ref07_Same_4 ⟨a0, a1, (0 : Int)⟩) ⟨a0, a1, (0 : Int)⟩)
noncomputable def cs_ref07_Same : CSpec := { ins := [(.val (.sl 38 (.pair (.int .i64) (.pair (.sl 5 (.int .u8)) .unit))) .s), (.val (.sl 38 (.pair (.int .i64) (.pair (.sl 5 (.int .u8)) .unit))) .s)], outs := [(.bool, .s)], fn := fun (d : (List ((Int) × (List (Int)) × Unit)) × (List ((Int) × (List (Int)) × Unit)) × Unit) K => p_ref07_Same d.1 d.2.1 fun r0 => K ((r0, ()) : Bool × Unit) ((()) : Unit) }
theorem h_ref07_Same : Holds Try.prog 16 cs_ref07_Same := by
  refine holds_of (env := envOf gam_ref07_Same Try.f16.ntmps fz_ref07_Same lv_ref07_Same) (fn := Try.f16) (code := body Try.f16.body) (rs := [(4, none)]) (lp := lp_ref07_Same) mixed (envTyOk _ _ _ _) gamOk_ref07_Same Try.func16 (by kernel_rfl) (by kernel_rfl) (by kernel_rfl) (by kernel_rfl) (by kernel_rfl) (loopsOk_of fun c hc => ?_) (by kernel_rfl) ?_
  · rw [show loopsL (body Try.f16.body) = [c_ref07_Same_4] by kernel_rfl] at hc
    simp only [List.mem_cons, List.not_mem_nil, or_false] at hc
    rcases hc with rfl
    · exact ok_ref07_Same_4
  intro d R K res h
  have : evC (envOf gam_ref07_Same Try.f16.ntmps fz_ref07_Same lv_ref07_Same) lp_ref07_Same (body Try.f16.body) (St.start cs_ref07_Same.ins d) (retK (envOf gam_ref07_Same Try.f16.ntmps fz_ref07_Same lv_ref07_Same) cs_ref07_Same.ins cs_ref07_Same.outs [(4, none)] K) = cs_ref07_Same.fn d K := by kernel_rfl
  rw [this]; exact h
-- f5 trammel/trammellaw07.SectSplits
noncomputable def fz_law07_SectSplits : Nat → Bool
  | _ => false
noncomputable def lv_law07_SectSplits : Nat → Option (List Nat)
  | _ => none
noncomputable def gam_law07_SectSplits : FuncId → Option CSpec
  | 13 => some cs_law07_awake
  | 14 => some cs_sect_Split
  | 15 => some cs_ref07_Split
  | 16 => some cs_ref07_Same
  | 17 => some cs_law07_told
  | _ => none
theorem gamOk_law07_SectSplits : EnvFn Try.prog (envOf gam_law07_SectSplits Try.f5.ntmps fz_law07_SectSplits lv_law07_SectSplits) := by
  intro f c h
  unfold envOf gam_law07_SectSplits at h
  simp only at h
  split at h <;> first | (cases h; done) | (cases h; exact h_law07_awake) | (cases h; exact h_sect_Split) | (cases h; exact h_ref07_Split) | (cases h; exact h_ref07_Same) | (cases h; exact h_law07_told)
noncomputable def p_law07_SectSplits {R : Type} (a0 : List (Int)) (K : Bool → Option R) : Option R :=
  p_law07_awake  fun r1 =>
  let v2 := !r1
  cond v2
  (K false)
  (let v3 := ((List.length a0 : Nat) : Int)
  let v4 := minI v3 (70000 : Int)
  cond (inR (0 : Int) v4 (List.length a0))
  (let v5 := rng a0 (0 : Int) v4
  p_sect_Split v5 fun r6 r7 =>
  p_ref07_Split v5 fun r8 r9 =>
  p_law07_told r6 fun r10 =>
  p_ref07_Same r10 r8 fun r11 =>
  cond r11
  (let v12 := r7 == r9
  K v12)
  (K false)) none)
noncomputable def cs_law07_SectSplits : CSpec := { ins := [(.val (.sl 5 (.int .u8)) .s)], outs := [(.bool, .s)], fn := fun (d : (List (Int)) × Unit) K => p_law07_SectSplits d.1 fun r0 => K ((r0, ()) : Bool × Unit) ((()) : Unit) }
theorem h_law07_SectSplits : Holds Try.prog 5 cs_law07_SectSplits := by
  refine holds_of (env := envOf gam_law07_SectSplits Try.f5.ntmps fz_law07_SectSplits lv_law07_SectSplits) (fn := Try.f5) (code := body Try.f5.body) (rs := [(2, none)]) (lp := lp0) mixed (envTyOk _ _ _ _) gamOk_law07_SectSplits Try.func5 (by kernel_rfl) (by kernel_rfl) (by kernel_rfl) (by kernel_rfl) (by kernel_rfl) (loopsOk_none (by kernel_rfl)) (by kernel_rfl) ?_
  intro d R K res h
  have : evC (envOf gam_law07_SectSplits Try.f5.ntmps fz_law07_SectSplits lv_law07_SectSplits) lp0 (body Try.f5.body) (St.start cs_law07_SectSplits.ins d) (retK (envOf gam_law07_SectSplits Try.f5.ntmps fz_law07_SectSplits lv_law07_SectSplits) cs_law07_SectSplits.ins cs_law07_SectSplits.outs [(2, none)] K) = cs_law07_SectSplits.fn d K := by kernel_rfl
  rw [this]; exact h
-- f18 trammel/trammelref07.Short
noncomputable def fz_ref07_Short : Nat → Bool
  | _ => false
noncomputable def lv_ref07_Short : Nat → Option (List Nat)
  | _ => none
noncomputable def gam_ref07_Short : FuncId → Option CSpec
  | _ => none
theorem gamOk_ref07_Short : EnvFn Try.prog (envOf gam_ref07_Short Try.f18.ntmps fz_ref07_Short lv_ref07_Short) := by
  intro f c h
  unfold envOf gam_ref07_Short at h
  simp only at h
  cases h
structure X_ref07_Short_5 where
  f0 : List ((Int) × (List (Int)) × Unit)
  f3 : Int
  f4 : Int

noncomputable def B_ref07_Short_5 {R : Type} (k_ret : Bool → Option R) (k_exit_0 : Int → Option R) (rec : X_ref07_Short_5 → Option R) (x : X_ref07_Short_5) : Option R :=
  let v1 := ((List.length x.f0 : Nat) : Int)
  let v2 := decide (x.f4 < v1)
  cond v2
  (cond (inB x.f4 (List.length x.f0))
  (let v3 := List.getD x.f0 x.f4.toNat ((0 : Int), (([] : List (Int)), ()))
  let v4 := ((List.length v3.2.1 : Nat) : Int)
  let v5 := decide (v4 > (70000 : Int))
  cond v5
  (k_ret false)
  (cond (inB x.f4 (List.length x.f0))
  (let v6 := List.getD x.f0 x.f4.toNat ((0 : Int), (([] : List (Int)), ()))
  let v7 := ((List.length v6.2.1 : Nat) : Int)
  let v8 := IntKind.i64.wrap (x.f3 + v7)
  let v9 := IntKind.i64.wrap (x.f4 + (1 : Int))
  rec ⟨x.f0, v8, v9⟩) none)) none)
  (k_exit_0 x.f3)
noncomputable def S_ref07_Short_5 (x : X_ref07_Short_5) : St := St.ofList [(0, (.v (.sl 38 (.pair (.int .i64) (.pair (.sl 5 (.int .u8)) .unit))) .s x.f0)), (3, (.v (.int .i64) .s x.f3)), (4, (.v (.int .i64) .s x.f4))]
def out_ref07_Short_5 : Ex → List Nat | .ret => [2] | (.exit 0) => [3] | _ => []
noncomputable def fuel_ref07_Short_5 (x : X_ref07_Short_5) : Nat := fuel64
noncomputable def lp_ref07_Short : Loops := fun i R st K => match i with
  | 5 => match st 0, st 3, st 4 with
    | (.v (.sl 38 (.pair (.int .i64) (.pair (.sl 5 (.int .u8)) .unit))) .s y0), (.v (.int .i64) .s y3), (.v (.int .i64) .s y4) => loopN (B_ref07_Short_5 (fun e2 => K .ret (St.ofList [(2, (.v .bool .s e2))])) (fun e3 => K (.exit 0) (St.ofList [(3, (.v (.int .i64) .s e3))]))) (fuel_ref07_Short_5 ⟨y0, y3, y4⟩) ⟨y0, y3, y4⟩
    | _, _, _ => none
  | _ => none
noncomputable def c_ref07_Short_5 : Code := match loopAt 5 (body Try.f18.body) with | some c => c | none => .skip
theorem step_ref07_Short_5 (R : Type) (K : Ex → St → Option R) (rec : St → Option R) (x : X_ref07_Short_5) : evC (envOf gam_ref07_Short Try.f18.ntmps fz_ref07_Short lv_ref07_Short) lp_ref07_Short c_ref07_Short_5 (S_ref07_Short_5 x) (fun e st => match e with | .normal => rec (st.only [0, 3, 4]) | e => K e (st.only (out_ref07_Short_5 e))) = B_ref07_Short_5 (fun e2 => K .ret (St.ofList [(2, (.v .bool .s e2))])) (fun e3 => K (.exit 0) (St.ofList [(3, (.v (.int .i64) .s e3))])) (fun x => rec (S_ref07_Short_5 x)) x := by kernel_rfl
theorem ok_ref07_Short_5 : LoopOk (envOf gam_ref07_Short Try.f18.ntmps fz_ref07_Short lv_ref07_Short) lp_ref07_Short c_ref07_Short_5 := by
  refine loopOk_of (hd := [0, 3, 4]) (out := out_ref07_Short_5) (S := S_ref07_Short_5) (fun _ K => B_ref07_Short_5 (fun e2 => K .ret (St.ofList [(2, (.v .bool .s e2))])) (fun e3 => K (.exit 0) (St.ofList [(3, (.v (.int .i64) .s e3))]))) fuel_ref07_Short_5 5 step_ref07_Short_5 (fun x => by kernel_rfl) (by kernel_rfl) ?_
  intro R st K r h
  unfold lp_ref07_Short at h
  simp only at h
  split at h
  · rename_i y0 y3 y4 hy0 hy3 hy4
    refine ⟨⟨y0, y3, y4⟩, ?_, h⟩
    show St.ofList [(0, st 0), (3, st 3), (4, st 4)] = _
    rw [hy0, hy3, hy4]
    rfl
  · cases h
noncomputable def p_ref07_Short {R : Type} (a0 : List ((Int) × (List (Int)) × Unit)) (K : Bool → Option R) : Option R :=
  let v1 := ((List.length a0 : Nat) : Int)
  let v2 := decide (v1 > (40 : Int))
  cond v2
  (K false)
  (loopN (B_ref07_Short_5 (fun w3 => K w3) (fun w4 => let v5 := decide (w4 ≤ (80000 : Int))
  K v5)) (fuel_ref07_Short_5 ⟨a0, (0 : Int), (0 : Int)⟩) ⟨a0, (0 : Int), (0 : Int)⟩)
noncomputable def cs_ref07_Short : CSpec := { ins := [(.val (.sl 38 (.pair (.int .i64) (.pair (.sl 5 (.int .u8)) .unit))) .s)], outs := [(.bool, .s)], fn := fun (d : (List ((Int) × (List (Int)) × Unit)) × Unit) K => p_ref07_Short d.1 fun r0 => K ((r0, ()) : Bool × Unit) ((()) : Unit) }
theorem h_ref07_Short : Holds Try.prog 18 cs_ref07_Short := by
  refine holds_of (env := envOf gam_ref07_Short Try.f18.ntmps fz_ref07_Short lv_ref07_Short) (fn := Try.f18) (code := body Try.f18.body) (rs := [(2, none)]) (lp := lp_ref07_Short) mixed (envTyOk _ _ _ _) gamOk_ref07_Short Try.func18 (by kernel_rfl) (by kernel_rfl) (by kernel_rfl) (by kernel_rfl) (by kernel_rfl) (loopsOk_of fun c hc => ?_) (by kernel_rfl) ?_
  · rw [show loopsL (body Try.f18.body) = [c_ref07_Short_5] by kernel_rfl] at hc
    simp only [List.mem_cons, List.not_mem_nil, or_false] at hc
    rcases hc with rfl
    · exact ok_ref07_Short_5
  intro d R K res h
  have : evC (envOf gam_ref07_Short Try.f18.ntmps fz_ref07_Short lv_ref07_Short) lp_ref07_Short (body Try.f18.body) (St.start cs_ref07_Short.ins d) (retK (envOf gam_ref07_Short Try.f18.ntmps fz_ref07_Short lv_ref07_Short) cs_ref07_Short.ins cs_ref07_Short.outs [(2, none)] K) = cs_ref07_Short.fn d K := by kernel_rfl
  rw [this]; exact h
-- f37 trammel/trammelref01.PutU
noncomputable def fz_ref01_PutU : Nat → Bool
  | _ => false
noncomputable def lv_ref01_PutU : Nat → Option (List Nat)
  | _ => none
noncomputable def gam_ref01_PutU : FuncId → Option CSpec
  | _ => none
theorem gamOk_ref01_PutU : EnvFn Try.prog (envOf gam_ref01_PutU Try.f37.ntmps fz_ref01_PutU lv_ref01_PutU) := by
  intro f c h
  unfold envOf gam_ref01_PutU at h
  simp only at h
  cases h
structure X_ref01_PutU_2 where
  f0 : Int
  f3 : List (Int)

noncomputable def B_ref01_PutU_2 {R : Type} (k_ret : (List (Int)) → Option R) (rec : X_ref01_PutU_2 → Option R) (x : X_ref01_PutU_2) : Option R :=
  cond ((128 : Int) != 0)
  (let v1 := Int.tmod x.f0 (128 : Int)
  let v2 := IntKind.u8.wrap v1
  cond ((128 : Int) != 0)
  (let v3 := IntKind.u64.wrap (Int.tdiv x.f0 (128 : Int))
  let v4 := v3 == (0 : Int)
  cond v4
  (let v5 := List.set (List.replicate 1 (0 : Int)) 0 v2
  cond (decide (List.length x.f3 + List.length v5 ≤ most))
  (let v6 := x.f3 ++ v5
  k_ret v6) none)
  (let v7 := IntKind.u8.wrap (v2 + (128 : Int))
  let v8 := List.set (List.replicate 1 (0 : Int)) 0 v7
  cond (decide (List.length x.f3 + List.length v8 ≤ most))
  (let v9 := x.f3 ++ v8
  rec ⟨v3, v9⟩) none)) none) none
noncomputable def S_ref01_PutU_2 (x : X_ref01_PutU_2) : St := St.ofList [(0, (.v (.int .u64) .s x.f0)), (3, (.v (.sl 5 (.int .u8)) (.o .s) x.f3))]
def out_ref01_PutU_2 : Ex → List Nat | .ret => [2] | _ => []
noncomputable def fuel_ref01_PutU_2 (x : X_ref01_PutU_2) : Nat := fuel64
noncomputable def lp_ref01_PutU : Loops := fun i R st K => match i with
  | 2 => match st 0, st 3 with
    | (.v (.int .u64) .s y0), (.v (.sl 5 (.int .u8)) (.o .s) y3) => loopN (B_ref01_PutU_2 (fun e2 => K .ret (St.ofList [(2, (.v (.sl 5 (.int .u8)) (.o .s) e2))]))) (fuel_ref01_PutU_2 ⟨y0, y3⟩) ⟨y0, y3⟩
    | _, _ => none
  | _ => none
noncomputable def c_ref01_PutU_2 : Code := match loopAt 2 (body Try.f37.body) with | some c => c | none => .skip
theorem step_ref01_PutU_2 (R : Type) (K : Ex → St → Option R) (rec : St → Option R) (x : X_ref01_PutU_2) : evC (envOf gam_ref01_PutU Try.f37.ntmps fz_ref01_PutU lv_ref01_PutU) lp_ref01_PutU c_ref01_PutU_2 (S_ref01_PutU_2 x) (fun e st => match e with | .normal => rec (st.only [0, 3]) | e => K e (st.only (out_ref01_PutU_2 e))) = B_ref01_PutU_2 (fun e2 => K .ret (St.ofList [(2, (.v (.sl 5 (.int .u8)) (.o .s) e2))])) (fun x => rec (S_ref01_PutU_2 x)) x := by kernel_rfl
theorem ok_ref01_PutU_2 : LoopOk (envOf gam_ref01_PutU Try.f37.ntmps fz_ref01_PutU lv_ref01_PutU) lp_ref01_PutU c_ref01_PutU_2 := by
  refine loopOk_of (hd := [0, 3]) (out := out_ref01_PutU_2) (S := S_ref01_PutU_2) (fun _ K => B_ref01_PutU_2 (fun e2 => K .ret (St.ofList [(2, (.v (.sl 5 (.int .u8)) (.o .s) e2))]))) fuel_ref01_PutU_2 2 step_ref01_PutU_2 (fun x => by kernel_rfl) (by kernel_rfl) ?_
  intro R st K r h
  unfold lp_ref01_PutU at h
  simp only at h
  split at h
  · rename_i y0 y3 hy0 hy3
    refine ⟨⟨y0, y3⟩, ?_, h⟩
    show St.ofList [(0, st 0), (3, st 3)] = _
    rw [hy0, hy3]
    rfl
  · cases h
noncomputable def p_ref01_PutU {R : Type} (a0 : Int) (K : (List (Int)) → Option R) : Option R :=
  loopN (B_ref01_PutU_2 (fun w1 => K w1)) (fuel_ref01_PutU_2 ⟨a0, ([] : List (Int))⟩) ⟨a0, ([] : List (Int))⟩
noncomputable def cs_ref01_PutU : CSpec := { ins := [(.val (.int .u64) .s)], outs := [((.sl 5 (.int .u8)), (.o .s))], fn := fun (d : Int × Unit) K => p_ref01_PutU d.1 fun r0 => K ((r0, ()) : (List (Int)) × Unit) ((()) : Unit) }
theorem h_ref01_PutU : Holds Try.prog 37 cs_ref01_PutU := by
  refine holds_of (env := envOf gam_ref01_PutU Try.f37.ntmps fz_ref01_PutU lv_ref01_PutU) (fn := Try.f37) (code := body Try.f37.body) (rs := [(2, none)]) (lp := lp_ref01_PutU) mixed (envTyOk _ _ _ _) gamOk_ref01_PutU Try.func37 (by kernel_rfl) (by kernel_rfl) (by kernel_rfl) (by kernel_rfl) (by kernel_rfl) (loopsOk_of fun c hc => ?_) (by kernel_rfl) ?_
  · rw [show loopsL (body Try.f37.body) = [c_ref01_PutU_2] by kernel_rfl] at hc
    simp only [List.mem_cons, List.not_mem_nil, or_false] at hc
    rcases hc with rfl
    · exact ok_ref01_PutU_2
  intro d R K res h
  have : evC (envOf gam_ref01_PutU Try.f37.ntmps fz_ref01_PutU lv_ref01_PutU) lp_ref01_PutU (body Try.f37.body) (St.start cs_ref01_PutU.ins d) (retK (envOf gam_ref01_PutU Try.f37.ntmps fz_ref01_PutU lv_ref01_PutU) cs_ref01_PutU.ins cs_ref01_PutU.outs [(2, none)] K) = cs_ref01_PutU.fn d K := by kernel_rfl
  rw [this]; exact h
-- f20 trammel/trammelref07.Join
noncomputable def fz_ref07_Join : Nat → Bool
  | _ => false
noncomputable def lv_ref07_Join : Nat → Option (List Nat)
  | 0 => some [0]
  | 1 => some [0]
  | 2 => some [0, 4]
  | 3 => some [0, 4]
  | 4 => some [0, 4]
  | 5 => some []
  | 6 => some [0]
  | 7 => some [0, 5]
  | 8 => some [0, 5, 6]
  | 9 => some [0, 5, 6]
  | 10 => some [0, 5, 6]
  | 11 => some [0, 5, 6]
  | 12 => some [0, 5, 6]
  | 13 => some [5]
  | 14 => some []
  | 15 => some [5]
  | _ => none
noncomputable def gam_ref07_Join : FuncId → Option CSpec
  | 34 => some cs_ref07_may
  | 37 => some cs_ref01_PutU
  | _ => none
theorem gamOk_ref07_Join : EnvFn Try.prog (envOf gam_ref07_Join Try.f20.ntmps fz_ref07_Join lv_ref07_Join) := by
  intro f c h
  unfold envOf gam_ref07_Join at h
  simp only at h
  split at h <;> first | (cases h; done) | (cases h; exact h_ref07_may) | (cases h; exact h_ref01_PutU)
structure X_ref07_Join_8 where
  f0 : List ((Int) × (List (Int)) × Unit)
  f5 : List (Int)
  f6 : Int

noncomputable def B_ref07_Join_8 {R : Type} (k_exit_2 : (List (Int)) → Option R) (rec : X_ref07_Join_8 → Option R) (x : X_ref07_Join_8) : Option R :=
  let v1 := ((List.length x.f0 : Nat) : Int)
  let v2 := decide (x.f6 < v1)
  cond v2
  (cond (inB x.f6 (List.length x.f0))
  (let v3 := List.getD x.f0 x.f6.toNat ((0 : Int), (([] : List (Int)), ()))
  let v4 := IntKind.u8.wrap v3.1
  let v5 := List.set (List.replicate 1 (0 : Int)) 0 v4
  cond (decide (List.length x.f5 + List.length v5 ≤ most))
  (let v6 := x.f5 ++ v5
  cond (inB x.f6 (List.length x.f0))
  (let v7 := List.getD x.f0 x.f6.toNat ((0 : Int), (([] : List (Int)), ()))
  let v8 := ((List.length v7.2.1 : Nat) : Int)
  let v9 := IntKind.u64.wrap v8
  p_ref01_PutU v9 fun r10 =>
  cond (decide (List.length v6 + List.length r10 ≤ most))
  (let v11 := v6 ++ r10
  cond (inB x.f6 (List.length x.f0))
  (let v12 := List.getD x.f0 x.f6.toNat ((0 : Int), (([] : List (Int)), ()))
  cond (decide (List.length v11 + List.length v12.2.1 ≤ most))
  (let v13 := v11 ++ v12.2.1
  let v14 := IntKind.i64.wrap (x.f6 + (1 : Int))
  rec ⟨x.f0, v13, v14⟩) none) none) none) none) none) none)
  (k_exit_2 x.f5)
noncomputable def S_ref07_Join_8 (x : X_ref07_Join_8) : St := St.ofList [(0, (.v (.sl 38 (.pair (.int .i64) (.pair (.sl 5 (.int .u8)) .unit))) .s x.f0)), (5, (.v (.sl 5 (.int .u8)) (.o .s) x.f5)), (6, (.v (.int .i64) .s x.f6))]
def out_ref07_Join_8 : Ex → List Nat | (.exit 2) => [5] | _ => []
noncomputable def fuel_ref07_Join_8 (x : X_ref07_Join_8) : Nat := fuel64
structure X_ref07_Join_2 where
  f0 : List ((Int) × (List (Int)) × Unit)
  f4 : Int

noncomputable def B_ref07_Join_2 {R : Type} (k_ret : (List (Int)) → Int → Option R) (k_exit_0 : (List ((Int) × (List (Int)) × Unit)) → Option R) (rec : X_ref07_Join_2 → Option R) (x : X_ref07_Join_2) : Option R :=
  let v1 := ((List.length x.f0 : Nat) : Int)
  let v2 := decide (x.f4 < v1)
  cond v2
  (cond (inR (0 : Int) x.f4 (List.length x.f0))
  (let v3 := rng x.f0 (0 : Int) x.f4
  cond (inB x.f4 (List.length x.f0))
  (let v4 := List.getD x.f0 x.f4.toNat ((0 : Int), (([] : List (Int)), ()))
  p_ref07_may v3 v4.1 fun r5 =>
  let v6 := !r5
  cond v6
  (k_ret ([] : List (Int)) (2 : Int))
  (let v7 := IntKind.i64.wrap (x.f4 + (1 : Int))
  rec ⟨x.f0, v7⟩)) none) none)
  (k_exit_0 x.f0)
noncomputable def S_ref07_Join_2 (x : X_ref07_Join_2) : St := St.ofList [(0, (.v (.sl 38 (.pair (.int .i64) (.pair (.sl 5 (.int .u8)) .unit))) .s x.f0)), (4, (.v (.int .i64) .s x.f4))]
def out_ref07_Join_2 : Ex → List Nat | .ret => [2, 3] | (.exit 0) => [0] | _ => []
noncomputable def fuel_ref07_Join_2 (x : X_ref07_Join_2) : Nat := fuel64
noncomputable def lp_ref07_Join : Loops := fun i R st K => match i with
  | 8 => match st 0, st 5, st 6 with
    | (.v (.sl 38 (.pair (.int .i64) (.pair (.sl 5 (.int .u8)) .unit))) .s y0), (.v (.sl 5 (.int .u8)) (.o .s) y5), (.v (.int .i64) .s y6) => loopN (B_ref07_Join_8 (fun e5 => K (.exit 2) (St.ofList [(5, (.v (.sl 5 (.int .u8)) (.o .s) e5))]))) (fuel_ref07_Join_8 ⟨y0, y5, y6⟩) ⟨y0, y5, y6⟩
    | _, _, _ => none
  | 2 => match st 0, st 4 with
    | (.v (.sl 38 (.pair (.int .i64) (.pair (.sl 5 (.int .u8)) .unit))) .s y0), (.v (.int .i64) .s y4) => loopN (B_ref07_Join_2 (fun e2 e3 => K .ret (St.ofList [(2, (.v (.sl 5 (.int .u8)) (.o .s) e2)), (3, (.v (.int .i64) .s e3))])) (fun e0 => K (.exit 0) (St.ofList [(0, (.v (.sl 38 (.pair (.int .i64) (.pair (.sl 5 (.int .u8)) .unit))) .s e0))]))) (fuel_ref07_Join_2 ⟨y0, y4⟩) ⟨y0, y4⟩
    | _, _ => none
  | _ => none
noncomputable def c_ref07_Join_8 : Code := match loopAt 8 (body Try.f20.body) with | some c => c | none => .skip
theorem step_ref07_Join_8 (R : Type) (K : Ex → St → Option R) (rec : St → Option R) (x : X_ref07_Join_8) : evC (envOf gam_ref07_Join Try.f20.ntmps fz_ref07_Join lv_ref07_Join) lp_ref07_Join c_ref07_Join_8 (S_ref07_Join_8 x) (fun e st => match e with | .normal => rec (st.only [0, 5, 6]) | e => K e (st.only (out_ref07_Join_8 e))) = B_ref07_Join_8 (fun e5 => K (.exit 2) (St.ofList [(5, (.v (.sl 5 (.int .u8)) (.o .s) e5))])) (fun x => rec (S_ref07_Join_8 x)) x := by kernel_rfl
theorem ok_ref07_Join_8 : LoopOk (envOf gam_ref07_Join Try.f20.ntmps fz_ref07_Join lv_ref07_Join) lp_ref07_Join c_ref07_Join_8 := by
  refine loopOk_of (hd := [0, 5, 6]) (out := out_ref07_Join_8) (S := S_ref07_Join_8) (fun _ K => B_ref07_Join_8 (fun e5 => K (.exit 2) (St.ofList [(5, (.v (.sl 5 (.int .u8)) (.o .s) e5))]))) fuel_ref07_Join_8 8 step_ref07_Join_8 (fun x => by kernel_rfl) (by kernel_rfl) ?_
  intro R st K r h
  unfold lp_ref07_Join at h
  simp only at h
  split at h
  · rename_i y0 y5 y6 hy0 hy5 hy6
    refine ⟨⟨y0, y5, y6⟩, ?_, h⟩
    show St.ofList [(0, st 0), (5, st 5), (6, st 6)] = _
    rw [hy0, hy5, hy6]
    rfl
  · cases h
noncomputable def c_ref07_Join_2 : Code := match loopAt 2 (body Try.f20.body) with | some c => c | none => .skip
theorem step_ref07_Join_2 (R : Type) (K : Ex → St → Option R) (rec : St → Option R) (x : X_ref07_Join_2) : evC (envOf gam_ref07_Join Try.f20.ntmps fz_ref07_Join lv_ref07_Join) lp_ref07_Join c_ref07_Join_2 (S_ref07_Join_2 x) (fun e st => match e with | .normal => rec (st.only [0, 4]) | e => K e (st.only (out_ref07_Join_2 e))) = B_ref07_Join_2 (fun e2 e3 => K .ret (St.ofList [(2, (.v (.sl 5 (.int .u8)) (.o .s) e2)), (3, (.v (.int .i64) .s e3))])) (fun e0 => K (.exit 0) (St.ofList [(0, (.v (.sl 38 (.pair (.int .i64) (.pair (.sl 5 (.int .u8)) .unit))) .s e0))])) (fun x => rec (S_ref07_Join_2 x)) x := by kernel_rfl
theorem ok_ref07_Join_2 : LoopOk (envOf gam_ref07_Join Try.f20.ntmps fz_ref07_Join lv_ref07_Join) lp_ref07_Join c_ref07_Join_2 := by
  refine loopOk_of (hd := [0, 4]) (out := out_ref07_Join_2) (S := S_ref07_Join_2) (fun _ K => B_ref07_Join_2 (fun e2 e3 => K .ret (St.ofList [(2, (.v (.sl 5 (.int .u8)) (.o .s) e2)), (3, (.v (.int .i64) .s e3))])) (fun e0 => K (.exit 0) (St.ofList [(0, (.v (.sl 38 (.pair (.int .i64) (.pair (.sl 5 (.int .u8)) .unit))) .s e0))]))) fuel_ref07_Join_2 2 step_ref07_Join_2 (fun x => by kernel_rfl) (by kernel_rfl) ?_
  intro R st K r h
  unfold lp_ref07_Join at h
  simp only at h
  split at h
  · rename_i y0 y4 hy0 hy4
    refine ⟨⟨y0, y4⟩, ?_, h⟩
    show St.ofList [(0, st 0), (4, st 4)] = _
    rw [hy0, hy4]
    rfl
  · cases h
noncomputable def p_ref07_Join {R : Type} (a0 : List ((Int) × (List (Int)) × Unit)) (K : (List (Int)) → Int → Option R) : Option R :=
  loopN (B_ref07_Join_2 (fun w1 w2 => K w1 w2) (fun w3 => let v4 := List.set (List.set (List.set (List.set (List.set (List.set (List.set (List.set (List.replicate 8 (0 : Int)) 0 (0 : Int)) 1 (97 : Int)) 2 (115 : Int)) 3 (109 : Int)) 4 (1 : Int)) 5 (0 : Int)) 6 (0 : Int)) 7 (0 : Int)
  cond (Nat.blt 0 (List.length v4))
  (loopN (B_ref07_Join_8 (fun w5 => let v6 := ((List.length w5 : Nat) : Int)
  let v7 := decide (v6 > (65536 : Int))
  cond v7
  (K ([] : List (Int)) (4 : Int))
  (K w5 (0 : Int)))) (fuel_ref07_Join_8 ⟨w3, v4, (0 : Int)⟩) ⟨w3, v4, (0 : Int)⟩) none)) (fuel_ref07_Join_2 ⟨a0, (0 : Int)⟩) ⟨a0, (0 : Int)⟩
noncomputable def cs_ref07_Join : CSpec := { ins := [(.val (.sl 38 (.pair (.int .i64) (.pair (.sl 5 (.int .u8)) .unit))) .s)], outs := [((.sl 5 (.int .u8)), (.o .s)), ((.int .i64), .s)], fn := fun (d : (List ((Int) × (List (Int)) × Unit)) × Unit) K => p_ref07_Join d.1 fun r0 r1 => K ((r0, r1, ()) : (List (Int)) × Int × Unit) ((()) : Unit) }
theorem h_ref07_Join : Holds Try.prog 20 cs_ref07_Join := by
  refine holds_of (env := envOf gam_ref07_Join Try.f20.ntmps fz_ref07_Join lv_ref07_Join) (fn := Try.f20) (code := body Try.f20.body) (rs := [(2, none), (3, none)]) (lp := lp_ref07_Join) mixed (envTyOk _ _ _ _) gamOk_ref07_Join Try.func20 (by kernel_rfl) (by kernel_rfl) (by kernel_rfl) (by kernel_rfl) (by kernel_rfl) (loopsOk_of fun c hc => ?_) (by kernel_rfl) ?_
  · rw [show loopsL (body Try.f20.body) = [c_ref07_Join_2, c_ref07_Join_8] by kernel_rfl] at hc
    simp only [List.mem_cons, List.not_mem_nil, or_false] at hc
    rcases hc with rfl | rfl
    · exact ok_ref07_Join_2
    · exact ok_ref07_Join_8
  intro d R K res h
  have : evC (envOf gam_ref07_Join Try.f20.ntmps fz_ref07_Join lv_ref07_Join) lp_ref07_Join (body Try.f20.body) (St.start cs_ref07_Join.ins d) (retK (envOf gam_ref07_Join Try.f20.ntmps fz_ref07_Join lv_ref07_Join) cs_ref07_Join.ins cs_ref07_Join.outs [(2, none), (3, none)] K) = cs_ref07_Join.fn d K := by kernel_rfl
  rw [this]; exact h
-- f6 trammel/trammellaw07.SectJoins
noncomputable def fz_law07_SectJoins : Nat → Bool
  | _ => false
noncomputable def lv_law07_SectJoins : Nat → Option (List Nat)
  | 0 => some [0]
  | 1 => some [0]
  | 2 => some []
  | 3 => some [0]
  | 4 => some []
  | 5 => some [0]
  | 6 => some [0, 3]
  | 7 => some [0, 3, 4]
  | 8 => some [0, 3, 4]
  | 9 => some [0, 3, 4]
  | 10 => some [0, 3]
  | 11 => some [0, 3, 5, 6]
  | 12 => some [0, 3, 5, 6, 7, 8]
  | 13 => some []
  | 14 => some [0, 5, 8]
  | 15 => some [5]
  | 16 => some [0, 5]
  | 17 => some [0, 6, 9]
  | _ => none
noncomputable def gam_law07_SectJoins : FuncId → Option CSpec
  | 13 => some cs_law07_awake
  | 14 => some cs_sect_Split
  | 16 => some cs_ref07_Same
  | 17 => some cs_law07_told
  | 18 => some cs_ref07_Short
  | 19 => some cs_sect_Join
  | 20 => some cs_ref07_Join
  | 21 => some cs_ref01_Same
  | _ => none
theorem gamOk_law07_SectJoins : EnvFn Try.prog (envOf gam_law07_SectJoins Try.f6.ntmps fz_law07_SectJoins lv_law07_SectJoins) := by
  intro f c h
  unfold envOf gam_law07_SectJoins at h
  simp only at h
  split at h <;> first | (cases h; done) | (cases h; exact h_law07_awake) | (cases h; exact h_sect_Split) | (cases h; exact h_ref07_Same) | (cases h; exact h_law07_told) | (cases h; exact h_ref07_Short) | (cases h; exact h_sect_Join) | (cases h; exact h_ref07_Join) | (cases h; exact h_ref01_Same)
structure X_law07_SectJoins_7 where
  f0 : List ((Int) × (List (Int)) × Unit)
  f3 : List ((Int) × (List (Int)) × Unit)
  f4 : Int

noncomputable def B_law07_SectJoins_7 {R : Type} (k_exit_0 : (List ((Int) × (List (Int)) × Unit)) → (List ((Int) × (List (Int)) × Unit)) → Option R) (rec : X_law07_SectJoins_7 → Option R) (x : X_law07_SectJoins_7) : Option R :=
  let v1 := ((List.length x.f0 : Nat) : Int)
  let v2 := decide (x.f4 < v1)
  cond v2
  (cond (inB x.f4 (List.length x.f0))
  (let v3 := List.getD x.f0 x.f4.toNat ((0 : Int), (([] : List (Int)), ()))
  cond (inB x.f4 (List.length x.f0))
  (let v4 := List.getD x.f0 x.f4.toNat ((0 : Int), (([] : List (Int)), ()))
  let v5 := List.set (List.replicate 1 ((0 : Int), (([] : List (Int)), ()))) 0 (v3.1, (v4.2.1, ()))
  cond (decide (List.length x.f3 + List.length v5 ≤ most))
  (let v6 := x.f3 ++ v5
  let v7 := IntKind.i64.wrap (x.f4 + (1 : Int))
  rec ⟨x.f0, v6, v7⟩) none) none) none)
  (k_exit_0 x.f0 x.f3)
noncomputable def S_law07_SectJoins_7 (x : X_law07_SectJoins_7) : St := St.ofList [(0, (.v (.sl 38 (.pair (.int .i64) (.pair (.sl 5 (.int .u8)) .unit))) .s x.f0)), (3, (.v (.sl 39 (.pair (.int .i64) (.pair (.sl 5 (.int .u8)) .unit))) (.o .s) x.f3)), (4, (.v (.int .i64) .s x.f4))]
def out_law07_SectJoins_7 : Ex → List Nat | (.exit 0) => [0, 3] | _ => []
noncomputable def fuel_law07_SectJoins_7 (x : X_law07_SectJoins_7) : Nat := fuel64
noncomputable def lp_law07_SectJoins : Loops := fun i R st K => match i with
  | 7 => match st 0, st 3, st 4 with
    | (.v (.sl 38 (.pair (.int .i64) (.pair (.sl 5 (.int .u8)) .unit))) .s y0), (.v (.sl 39 (.pair (.int .i64) (.pair (.sl 5 (.int .u8)) .unit))) (.o .s) y3), (.v (.int .i64) .s y4) => loopN (B_law07_SectJoins_7 (fun e0 e3 => K (.exit 0) (St.ofList [(0, (.v (.sl 38 (.pair (.int .i64) (.pair (.sl 5 (.int .u8)) .unit))) .s e0)), (3, (.v (.sl 39 (.pair (.int .i64) (.pair (.sl 5 (.int .u8)) .unit))) (.o .s) e3))]))) (fuel_law07_SectJoins_7 ⟨y0, y3, y4⟩) ⟨y0, y3, y4⟩
    | _, _, _ => none
  | _ => none
noncomputable def c_law07_SectJoins_7 : Code := match loopAt 7 (body Try.f6.body) with | some c => c | none => .skip
theorem step_law07_SectJoins_7 (R : Type) (K : Ex → St → Option R) (rec : St → Option R) (x : X_law07_SectJoins_7) : evC (envOf gam_law07_SectJoins Try.f6.ntmps fz_law07_SectJoins lv_law07_SectJoins) lp_law07_SectJoins c_law07_SectJoins_7 (S_law07_SectJoins_7 x) (fun e st => match e with | .normal => rec (st.only [0, 3, 4]) | e => K e (st.only (out_law07_SectJoins_7 e))) = B_law07_SectJoins_7 (fun e0 e3 => K (.exit 0) (St.ofList [(0, (.v (.sl 38 (.pair (.int .i64) (.pair (.sl 5 (.int .u8)) .unit))) .s e0)), (3, (.v (.sl 39 (.pair (.int .i64) (.pair (.sl 5 (.int .u8)) .unit))) (.o .s) e3))])) (fun x => rec (S_law07_SectJoins_7 x)) x := by kernel_rfl
theorem ok_law07_SectJoins_7 : LoopOk (envOf gam_law07_SectJoins Try.f6.ntmps fz_law07_SectJoins lv_law07_SectJoins) lp_law07_SectJoins c_law07_SectJoins_7 := by
  refine loopOk_of (hd := [0, 3, 4]) (out := out_law07_SectJoins_7) (S := S_law07_SectJoins_7) (fun _ K => B_law07_SectJoins_7 (fun e0 e3 => K (.exit 0) (St.ofList [(0, (.v (.sl 38 (.pair (.int .i64) (.pair (.sl 5 (.int .u8)) .unit))) .s e0)), (3, (.v (.sl 39 (.pair (.int .i64) (.pair (.sl 5 (.int .u8)) .unit))) (.o .s) e3))]))) fuel_law07_SectJoins_7 7 step_law07_SectJoins_7 (fun x => by kernel_rfl) (by kernel_rfl) ?_
  intro R st K r h
  unfold lp_law07_SectJoins at h
  simp only at h
  split at h
  · rename_i y0 y3 y4 hy0 hy3 hy4
    refine ⟨⟨y0, y3, y4⟩, ?_, h⟩
    show St.ofList [(0, st 0), (3, st 3), (4, st 4)] = _
    rw [hy0, hy3, hy4]
    rfl
  · cases h
noncomputable def p_law07_SectJoins {R : Type} (a0 : List ((Int) × (List (Int)) × Unit)) (K : Bool → Option R) : Option R :=
  p_law07_awake  fun r1 =>
  let v2 := !r1
  cond v2
  (K false)
  (p_ref07_Short a0 fun r3 =>
  let v4 := !r3
  cond v4
  (K true)
  (loopN (B_law07_SectJoins_7 (fun w5 w6 => p_sect_Join w6 fun r7 r8 =>
  p_ref07_Join w5 fun r9 r10 =>
  let v11 := r8 != r10
  cond v11
  (K false)
  (p_ref01_Same r7 r9 fun r12 =>
  let v13 := !r12
  cond v13
  (K false)
  (p_law07_told w6 fun r14 =>
  p_ref07_Same r14 w5 fun r15 =>
  let v16 := !r15
  cond v16
  (K false)
  (let v17 := r10 != (0 : Int)
  cond v17
  (let v18 := ((List.length r7 : Nat) : Int)
  let v19 := v18 == (0 : Int)
  K v19)
  (p_sect_Split r7 fun r20 r21 =>
  let v22 := r21 == (0 : Int)
  cond v22
  (p_law07_told r20 fun r23 =>
  p_ref07_Same r23 w5 fun r24 =>
  K r24)
  (K false))))))) (fuel_law07_SectJoins_7 ⟨a0, ([] : List ((Int) × (List (Int)) × Unit)), (0 : Int)⟩) ⟨a0, ([] : List ((Int) × (List (Int)) × Unit)), (0 : Int)⟩))
noncomputable def cs_law07_SectJoins : CSpec := { ins := [(.val (.sl 38 (.pair (.int .i64) (.pair (.sl 5 (.int .u8)) .unit))) .s)], outs := [(.bool, .s)], fn := fun (d : (List ((Int) × (List (Int)) × Unit)) × Unit) K => p_law07_SectJoins d.1 fun r0 => K ((r0, ()) : Bool × Unit) ((()) : Unit) }
theorem h_law07_SectJoins : Holds Try.prog 6 cs_law07_SectJoins := by
  refine holds_of (env := envOf gam_law07_SectJoins Try.f6.ntmps fz_law07_SectJoins lv_law07_SectJoins) (fn := Try.f6) (code := body Try.f6.body) (rs := [(2, none)]) (lp := lp_law07_SectJoins) mixed (envTyOk _ _ _ _) gamOk_law07_SectJoins Try.func6 (by kernel_rfl) (by kernel_rfl) (by kernel_rfl) (by kernel_rfl) (by kernel_rfl) (loopsOk_of fun c hc => ?_) (by kernel_rfl) ?_
  · rw [show loopsL (body Try.f6.body) = [c_law07_SectJoins_7] by kernel_rfl] at hc
    simp only [List.mem_cons, List.not_mem_nil, or_false] at hc
    rcases hc with rfl
    · exact ok_law07_SectJoins_7
  intro d R K res h
  have : evC (envOf gam_law07_SectJoins Try.f6.ntmps fz_law07_SectJoins lv_law07_SectJoins) lp_law07_SectJoins (body Try.f6.body) (St.start cs_law07_SectJoins.ins d) (retK (envOf gam_law07_SectJoins Try.f6.ntmps fz_law07_SectJoins lv_law07_SectJoins) cs_law07_SectJoins.ins cs_law07_SectJoins.outs [(2, none)] K) = cs_law07_SectJoins.fn d K := by kernel_rfl
  rw [this]; exact h
-- f7 trammel/trammellaw07.SectCut
noncomputable def fz_law07_SectCut : Nat → Bool
  | _ => false
noncomputable def lv_law07_SectCut : Nat → Option (List Nat)
  | 0 => some [0, 1]
  | 1 => some [0, 1]
  | 2 => some []
  | 3 => some [0, 1]
  | 4 => some [0, 1]
  | 5 => some [0, 1, 5, 6]
  | 6 => some []
  | 7 => some [0, 1, 5]
  | 8 => some [0, 1, 5, 7, 8]
  | 9 => some []
  | 10 => some [0, 1, 8]
  | 11 => some []
  | 12 => some [0, 1, 8]
  | _ => none
noncomputable def gam_law07_SectCut : FuncId → Option CSpec
  | 13 => some cs_law07_awake
  | 14 => some cs_sect_Split
  | 16 => some cs_ref07_Same
  | 17 => some cs_law07_told
  | _ => none
theorem gamOk_law07_SectCut : EnvFn Try.prog (envOf gam_law07_SectCut Try.f7.ntmps fz_law07_SectCut lv_law07_SectCut) := by
  intro f c h
  unfold envOf gam_law07_SectCut at h
  simp only at h
  split at h <;> first | (cases h; done) | (cases h; exact h_law07_awake) | (cases h; exact h_sect_Split) | (cases h; exact h_ref07_Same) | (cases h; exact h_law07_told)
noncomputable def p_law07_SectCut {R : Type} (a0 : List (Int)) (a1 : Int) (K : Bool → Option R) : Option R :=
  p_law07_awake  fun r1 =>
  let v2 := !r1
  cond v2
  (K false)
  (let v3 := ((List.length a0 : Nat) : Int)
  let v4 := minI v3 (20000 : Int)
  cond (inR (0 : Int) v4 (List.length a0))
  (let v5 := rng a0 (0 : Int) v4
  p_sect_Split v5 fun r6 r7 =>
  let v8 := r7 != (0 : Int)
  cond v8
  (K true)
  (let v9 := decide (a1 < (0 : Int))
  cond v9
  (K true)
  (let v10 := ((List.length v5 : Nat) : Int)
  let v11 := decide (a1 > v10)
  cond v11
  (K true)
  (cond (inR (0 : Int) a1 (List.length v5))
  (let v12 := rng v5 (0 : Int) a1
  p_sect_Split v12 fun r13 r14 =>
  let v15 := ((List.length r13 : Nat) : Int)
  let v16 := ((List.length r6 : Nat) : Int)
  let v17 := decide (v15 > v16)
  cond v17
  (K false)
  (let v18 := ((List.length r13 : Nat) : Int)
  cond (inR (0 : Int) v18 (List.length r6))
  (let v19 := rng r6 (0 : Int) v18
  p_law07_told r13 fun r20 =>
  p_law07_told v19 fun r21 =>
  p_ref07_Same r20 r21 fun r22 =>
  let v23 := !r22
  cond v23
  (K false)
  (let v24 := r14 == (0 : Int)
  cond v24
  (K true)
  (let v25 := r14 == (1 : Int)
  cond v25
  (let v26 := ((List.length v5 : Nat) : Int)
  let v27 := decide (a1 < v26)
  K v27)
  (K false)))) none)) none)))) none)
noncomputable def cs_law07_SectCut : CSpec := { ins := [(.val (.sl 5 (.int .u8)) .s), (.val (.int .i64) .s)], outs := [(.bool, .s)], fn := fun (d : (List (Int)) × Int × Unit) K => p_law07_SectCut d.1 d.2.1 fun r0 => K ((r0, ()) : Bool × Unit) ((()) : Unit) }
theorem h_law07_SectCut : Holds Try.prog 7 cs_law07_SectCut := by
  refine holds_of (env := envOf gam_law07_SectCut Try.f7.ntmps fz_law07_SectCut lv_law07_SectCut) (fn := Try.f7) (code := body Try.f7.body) (rs := [(4, none)]) (lp := lp0) mixed (envTyOk _ _ _ _) gamOk_law07_SectCut Try.func7 (by kernel_rfl) (by kernel_rfl) (by kernel_rfl) (by kernel_rfl) (by kernel_rfl) (loopsOk_none (by kernel_rfl)) (by kernel_rfl) ?_
  intro d R K res h
  have : evC (envOf gam_law07_SectCut Try.f7.ntmps fz_law07_SectCut lv_law07_SectCut) lp0 (body Try.f7.body) (St.start cs_law07_SectCut.ins d) (retK (envOf gam_law07_SectCut Try.f7.ntmps fz_law07_SectCut lv_law07_SectCut) cs_law07_SectCut.ins cs_law07_SectCut.outs [(4, none)] K) = cs_law07_SectCut.fn d K := by kernel_rfl
  rw [this]; exact h
-- f8 trammel/trammellaw07.SectMore
noncomputable def fz_law07_SectMore : Nat → Bool
  | _ => false
noncomputable def lv_law07_SectMore : Nat → Option (List Nat)
  | 0 => some [0, 1, 2]
  | 1 => some [0, 1, 2]
  | 2 => some []
  | 3 => some [0, 1, 2]
  | 4 => some []
  | 5 => some [0, 1, 2]
  | 6 => some [0, 1, 2, 7]
  | 7 => some [0, 1, 2, 7, 8]
  | 8 => some [0, 1, 2, 7, 8]
  | 9 => some [0, 1, 2, 7, 8]
  | 10 => some [1, 2, 7]
  | 11 => some [1, 2, 7, 9, 10]
  | 12 => some []
  | 13 => some [1, 2, 7]
  | 14 => some [11]
  | 15 => some [11, 12, 13]
  | 16 => some [11, 13, 14, 15]
  | _ => none
noncomputable def gam_law07_SectMore : FuncId → Option CSpec
  | 13 => some cs_law07_awake
  | 14 => some cs_sect_Split
  | 16 => some cs_ref07_Same
  | 17 => some cs_law07_told
  | 18 => some cs_ref07_Short
  | 19 => some cs_sect_Join
  | _ => none
theorem gamOk_law07_SectMore : EnvFn Try.prog (envOf gam_law07_SectMore Try.f8.ntmps fz_law07_SectMore lv_law07_SectMore) := by
  intro f c h
  unfold envOf gam_law07_SectMore at h
  simp only at h
  split at h <;> first | (cases h; done) | (cases h; exact h_law07_awake) | (cases h; exact h_sect_Split) | (cases h; exact h_ref07_Same) | (cases h; exact h_law07_told) | (cases h; exact h_ref07_Short) | (cases h; exact h_sect_Join)
structure X_law07_SectMore_7 where
  f0 : List ((Int) × (List (Int)) × Unit)
  f1 : Int
  f2 : List (Int)
  f7 : List ((Int) × (List (Int)) × Unit)
  f8 : Int

noncomputable def B_law07_SectMore_7 {R : Type} (k_exit_0 : Int → (List (Int)) → (List ((Int) × (List (Int)) × Unit)) → Option R) (rec : X_law07_SectMore_7 → Option R) (x : X_law07_SectMore_7) : Option R :=
  let v1 := ((List.length x.f0 : Nat) : Int)
  let v2 := decide (x.f8 < v1)
  cond v2
  (cond (inB x.f8 (List.length x.f0))
  (let v3 := List.getD x.f0 x.f8.toNat ((0 : Int), (([] : List (Int)), ()))
  cond (inB x.f8 (List.length x.f0))
  (let v4 := List.getD x.f0 x.f8.toNat ((0 : Int), (([] : List (Int)), ()))
  let v5 := List.set (List.replicate 1 ((0 : Int), (([] : List (Int)), ()))) 0 (v3.1, (v4.2.1, ()))
  cond (decide (List.length x.f7 + List.length v5 ≤ most))
  (let v6 := x.f7 ++ v5
  let v7 := IntKind.i64.wrap (x.f8 + (1 : Int))
  rec ⟨x.f0, x.f1, x.f2, v6, v7⟩) none) none) none)
  (k_exit_0 x.f1 x.f2 x.f7)
noncomputable def S_law07_SectMore_7 (x : X_law07_SectMore_7) : St := St.ofList [(0, (.v (.sl 38 (.pair (.int .i64) (.pair (.sl 5 (.int .u8)) .unit))) .s x.f0)), (1, (.v (.int .i64) .s x.f1)), (2, (.v (.sl 5 (.int .u8)) .s x.f2)), (7, (.v (.sl 39 (.pair (.int .i64) (.pair (.sl 5 (.int .u8)) .unit))) (.o .s) x.f7)), (8, (.v (.int .i64) .s x.f8))]
def out_law07_SectMore_7 : Ex → List Nat | (.exit 0) => [1, 2, 7] | _ => []
noncomputable def fuel_law07_SectMore_7 (x : X_law07_SectMore_7) : Nat := fuel64
noncomputable def lp_law07_SectMore : Loops := fun i R st K => match i with
  | 7 => match st 0, st 1, st 2, st 7, st 8 with
    | (.v (.sl 38 (.pair (.int .i64) (.pair (.sl 5 (.int .u8)) .unit))) .s y0), (.v (.int .i64) .s y1), (.v (.sl 5 (.int .u8)) .s y2), (.v (.sl 39 (.pair (.int .i64) (.pair (.sl 5 (.int .u8)) .unit))) (.o .s) y7), (.v (.int .i64) .s y8) => loopN (B_law07_SectMore_7 (fun e1 e2 e7 => K (.exit 0) (St.ofList [(1, (.v (.int .i64) .s e1)), (2, (.v (.sl 5 (.int .u8)) .s e2)), (7, (.v (.sl 39 (.pair (.int .i64) (.pair (.sl 5 (.int .u8)) .unit))) (.o .s) e7))]))) (fuel_law07_SectMore_7 ⟨y0, y1, y2, y7, y8⟩) ⟨y0, y1, y2, y7, y8⟩
    | _, _, _, _, _ => none
  | _ => none
noncomputable def c_law07_SectMore_7 : Code := match loopAt 7 (body Try.f8.body) with | some c => c | none => .skip
theorem step_law07_SectMore_7 (R : Type) (K : Ex → St → Option R) (rec : St → Option R) (x : X_law07_SectMore_7) : evC (envOf gam_law07_SectMore Try.f8.ntmps fz_law07_SectMore lv_law07_SectMore) lp_law07_SectMore c_law07_SectMore_7 (S_law07_SectMore_7 x) (fun e st => match e with | .normal => rec (st.only [0, 1, 2, 7, 8]) | e => K e (st.only (out_law07_SectMore_7 e))) = B_law07_SectMore_7 (fun e1 e2 e7 => K (.exit 0) (St.ofList [(1, (.v (.int .i64) .s e1)), (2, (.v (.sl 5 (.int .u8)) .s e2)), (7, (.v (.sl 39 (.pair (.int .i64) (.pair (.sl 5 (.int .u8)) .unit))) (.o .s) e7))])) (fun x => rec (S_law07_SectMore_7 x)) x := by kernel_rfl
theorem ok_law07_SectMore_7 : LoopOk (envOf gam_law07_SectMore Try.f8.ntmps fz_law07_SectMore lv_law07_SectMore) lp_law07_SectMore c_law07_SectMore_7 := by
  refine loopOk_of (hd := [0, 1, 2, 7, 8]) (out := out_law07_SectMore_7) (S := S_law07_SectMore_7) (fun _ K => B_law07_SectMore_7 (fun e1 e2 e7 => K (.exit 0) (St.ofList [(1, (.v (.int .i64) .s e1)), (2, (.v (.sl 5 (.int .u8)) .s e2)), (7, (.v (.sl 39 (.pair (.int .i64) (.pair (.sl 5 (.int .u8)) .unit))) (.o .s) e7))]))) fuel_law07_SectMore_7 7 step_law07_SectMore_7 (fun x => by kernel_rfl) (by kernel_rfl) ?_
  intro R st K r h
  unfold lp_law07_SectMore at h
  simp only at h
  split at h
  · rename_i y0 y1 y2 y7 y8 hy0 hy1 hy2 hy7 hy8
    refine ⟨⟨y0, y1, y2, y7, y8⟩, ?_, h⟩
    show St.ofList [(0, st 0), (1, st 1), (2, st 2), (7, st 7), (8, st 8)] = _
    rw [hy0, hy1, hy2, hy7, hy8]
    rfl
  · cases h
noncomputable def p_law07_SectMore {R : Type} (a0 : List ((Int) × (List (Int)) × Unit)) (a1 : Int) (a2 : List (Int)) (K : Bool → Option R) : Option R :=
  p_law07_awake  fun r1 =>
  let v2 := !r1
  cond v2
  (K false)
  (p_ref07_Short a0 fun r3 =>
  let v4 := !r3
  cond v4
  (K true)
  (let v5 := decide (a1 < (0 : Int))
  cond v5
  (K true)
  (let v6 := ((List.length a0 : Nat) : Int)
  let v7 := decide (a1 > v6)
  cond v7
  (K true)
  (let v8 := ((List.length a2 : Nat) : Int)
  let v9 := decide (v8 > (100 : Int))
  cond v9
  (K true)
  (loopN (B_law07_SectMore_7 (fun w10 w11 w12 => p_sect_Join w12 fun r13 r14 =>
  let v15 := r14 != (0 : Int)
  cond v15
  (K true)
  (let v16 := ((List.length r13 : Nat) : Int)
  let v17 := decide (v16 > (60000 : Int))
  cond v17
  (K true)
  (cond (inR (0 : Int) w10 (List.length w12))
  (let v18 := rng w12 (0 : Int) w10
  cond (inR w10 ((List.length w12 : Nat) : Int) (List.length w12))
  (let v19 := rng w12 w10 ((List.length w12 : Nat) : Int)
  both
  (let v20 := List.replicate 0 ((0 : Int), (([] : List (Int)), ()))
  both
  (cond (decide (List.length v20 + List.length v18 ≤ most))
  (let v21 := v20 ++ v18
  let v22 := List.set (List.replicate 1 ((0 : Int), (([] : List (Int)), ()))) 0 ((0 : Int), (w11, ()))
  cond (decide (List.length v21 + List.length v22 ≤ most))
  (let v23 := v21 ++ v22
  cond (decide (List.length v23 + List.length v19 ≤ most))
  (let v24 := v23 ++ v19
  p_sect_Join v24 fun r25 r26 =>
  p_sect_Split r25 fun r27 r28 =>
  let v29 := r26 == (0 : Int)
  cond v29
  (let v30 := r28 == (0 : Int)
  cond v30
  (p_law07_told r27 fun r31 =>
  p_law07_told v24 fun r32 =>
  p_ref07_Same r31 r32 fun r33 =>
  K r33)
  (K false))
  (K false)) none) none) none)
  (let v34 := List.set (List.replicate 1 ((0 : Int), (([] : List (Int)), ()))) 0 ((0 : Int), (w11, ()))
  cond (decide (List.length v20 + List.length v18 ≤ most))
  (let v35 := v20 ++ v18
  cond (decide (List.length v35 + List.length v34 ≤ most))
  (let v36 := v35 ++ v34
  cond (decide (List.length v36 + List.length v19 ≤ most))
  (let v37 := v36 ++ v19
  p_sect_Join v37 fun r38 r39 =>
  p_sect_Split r38 fun r40 r41 =>
  let v42 := r39 == (0 : Int)
  cond v42
  (let v43 := r41 == (0 : Int)
  cond v43
  (p_law07_told r40 fun r44 =>
  p_law07_told v37 fun r45 =>
  p_ref07_Same r44 r45 fun r46 =>
  K r46)
  (K false))
  (K false)) none) none) none))
  (let v47 := List.set (List.replicate 1 ((0 : Int), (([] : List (Int)), ()))) 0 ((0 : Int), (w11, ()))
  let v48 := List.replicate 0 ((0 : Int), (([] : List (Int)), ()))
  cond (decide (List.length v48 + List.length v18 ≤ most))
  (let v49 := v48 ++ v18
  cond (decide (List.length v49 + List.length v47 ≤ most))
  (let v50 := v49 ++ v47
  cond (decide (List.length v50 + List.length v19 ≤ most))
  (let v51 := v50 ++ v19
  p_sect_Join v51 fun r52 r53 =>
  p_sect_Split r52 fun r54 r55 =>
  let v56 := r53 == (0 : Int)
  cond v56
  (let v57 := r55 == (0 : Int)
  cond v57
  (p_law07_told r54 fun r58 =>
  p_law07_told v51 fun r59 =>
  p_ref07_Same r58 r59 fun r60 =>
  K r60)
  (K false))
  (K false)) none) none) none)) none) none)))) (fuel_law07_SectMore_7 ⟨a0, a1, a2, ([] : List ((Int) × (List (Int)) × Unit)), (0 : Int)⟩) ⟨a0, a1, a2, ([] : List ((Int) × (List (Int)) × Unit)), (0 : Int)⟩)))))
noncomputable def cs_law07_SectMore : CSpec := { ins := [(.val (.sl 38 (.pair (.int .i64) (.pair (.sl 5 (.int .u8)) .unit))) .s), (.val (.int .i64) .s), (.val (.sl 5 (.int .u8)) .s)], outs := [(.bool, .s)], fn := fun (d : (List ((Int) × (List (Int)) × Unit)) × Int × (List (Int)) × Unit) K => p_law07_SectMore d.1 d.2.1 d.2.2.1 fun r0 => K ((r0, ()) : Bool × Unit) ((()) : Unit) }
theorem h_law07_SectMore : Holds Try.prog 8 cs_law07_SectMore := by
  refine holds_of (env := envOf gam_law07_SectMore Try.f8.ntmps fz_law07_SectMore lv_law07_SectMore) (fn := Try.f8) (code := body Try.f8.body) (rs := [(6, none)]) (lp := lp_law07_SectMore) mixed (envTyOk _ _ _ _) gamOk_law07_SectMore Try.func8 (by kernel_rfl) (by kernel_rfl) (by kernel_rfl) (by kernel_rfl) (by kernel_rfl) (loopsOk_of fun c hc => ?_) (by kernel_rfl) ?_
  · rw [show loopsL (body Try.f8.body) = [c_law07_SectMore_7] by kernel_rfl] at hc
    simp only [List.mem_cons, List.not_mem_nil, or_false] at hc
    rcases hc with rfl
    · exact ok_law07_SectMore_7
  intro d R K res h
  have : evC (envOf gam_law07_SectMore Try.f8.ntmps fz_law07_SectMore lv_law07_SectMore) lp_law07_SectMore (body Try.f8.body) (St.start cs_law07_SectMore.ins d) (retK (envOf gam_law07_SectMore Try.f8.ntmps fz_law07_SectMore lv_law07_SectMore) cs_law07_SectMore.ins cs_law07_SectMore.outs [(6, none)] K) = cs_law07_SectMore.fn d K := by kernel_rfl
  rw [this]; exact h
-- f23 trammel/trammelref02.Name
noncomputable def fz_ref02_Name : Nat → Bool
  | _ => false
noncomputable def lv_ref02_Name : Nat → Option (List Nat)
  | _ => none
noncomputable def gam_ref02_Name : FuncId → Option CSpec
  | 12 => some cs_ref02_Valid
  | 35 => some cs_ref01_U
  | _ => none
theorem gamOk_ref02_Name : EnvFn Try.prog (envOf gam_ref02_Name Try.f23.ntmps fz_ref02_Name lv_ref02_Name) := by
  intro f c h
  unfold envOf gam_ref02_Name at h
  simp only at h
  split at h <;> first | (cases h; done) | (cases h; exact h_ref02_Valid) | (cases h; exact h_ref01_U)
noncomputable def p_ref02_Name {R : Type} (a0 : List (Int)) (K : (List UInt8) → Int → Int → Option R) : Option R :=
  p_ref01_U a0 (32 : Int) fun r1 r2 r3 =>
  let v4 := r3 != (0 : Int)
  cond v4
  (K ([] : List UInt8) (0 : Int) r3)
  (cond (inR r2 ((List.length a0 : Nat) : Int) (List.length a0))
  (let v5 := rng a0 r2 ((List.length a0 : Nat) : Int)
  let v6 := ((List.length v5 : Nat) : Int)
  let v7 := IntKind.u64.wrap v6
  let v8 := decide (r1 > v7)
  cond v8
  (K ([] : List UInt8) (0 : Int) (1 : Int))
  (cond (inR (0 : Int) r1 (List.length v5))
  (let v9 := rng v5 (0 : Int) r1
  let v10 := u8s v9
  p_ref02_Valid v10 fun r11 =>
  let v12 := !r11
  cond v12
  (K ([] : List UInt8) (0 : Int) (2 : Int))
  (let v13 := decide (r1 > (64 : Int))
  cond v13
  (K ([] : List UInt8) (0 : Int) (4 : Int))
  (let v14 := IntKind.i64.wrap r1
  let v15 := IntKind.i64.wrap (r2 + v14)
  K v10 v15 (0 : Int)))) none)) none)
noncomputable def cs_ref02_Name : CSpec := { ins := [(.val (.sl 5 (.int .u8)) .s)], outs := [(.str, .s), ((.int .i64), .s), ((.int .i64), .s)], fn := fun (d : (List (Int)) × Unit) K => p_ref02_Name d.1 fun r0 r1 r2 => K ((r0, r1, r2, ()) : (List UInt8) × Int × Int × Unit) ((()) : Unit) }
theorem h_ref02_Name : Holds Try.prog 23 cs_ref02_Name := by
  refine holds_of (env := envOf gam_ref02_Name Try.f23.ntmps fz_ref02_Name lv_ref02_Name) (fn := Try.f23) (code := body Try.f23.body) (rs := [(2, none), (3, none), (4, none)]) (lp := lp0) mixed (envTyOk _ _ _ _) gamOk_ref02_Name Try.func23 (by kernel_rfl) (by kernel_rfl) (by kernel_rfl) (by kernel_rfl) (by kernel_rfl) (loopsOk_none (by kernel_rfl)) (by kernel_rfl) ?_
  intro d R K res h
  have : evC (envOf gam_ref02_Name Try.f23.ntmps fz_ref02_Name lv_ref02_Name) lp0 (body Try.f23.body) (St.start cs_ref02_Name.ins d) (retK (envOf gam_ref02_Name Try.f23.ntmps fz_ref02_Name lv_ref02_Name) cs_ref02_Name.ins cs_ref02_Name.outs [(2, none), (3, none), (4, none)] K) = cs_ref02_Name.fn d K := by kernel_rfl
  rw [this]; exact h
set_option maxHeartbeats 400000 in
theorem grow_small (A : Option Addr) (len cap : Nat) (n : Int) (w : World) (h0 : 0 ≤ n) (hn : (len : Int) + n ≤ 4294967296) (hl : len ≤ cap) (hcap : (cap : Int) ≤ 9223372036854775807) (h : n ≤ (cap : Int) - len) :
    Calls Try.prog 43 #[.slice A len cap, .int .i64 n] w fun e w' => e = .returned (.slice A len cap) ∧ w' = w := by
  go_enter Try.func43, Try.ntmps43
  go_wp2
  go_ret
  exact ⟨rfl, rfl⟩
set_option maxHeartbeats 1000000 in
theorem grow_some (a : Addr) (len cap m : Nat) (n : Int) (w : World) (h0 : 0 ≤ n) (hn : (len : Int) + n ≤ 4294967296) (hl : len ≤ cap) (hcap : (cap : Int) ≤ 9223372036854775807) (h : (cap : Int) - len < n) (hm : n - ((cap : Int) - len) = m) (xs : List Value) (hfo : (loadCellsFrom a 0 cap #[]).run Try.prog w.drew = .ok xs.toArray w.drew) :
    Calls Try.prog 43 #[.slice (some a) len cap, .int .i64 n] w fun e w'' => e = .returned (.slice (some ⟨w.heap.size, 0, none⟩) len (grownCap w (cap + m) cap 5)) ∧
      w'' = w.drew.alloc (.cells (xs.toArray ++ (Builtin.zeroCells #[.int .u8 0] m ++ Builtin.zeroCells #[.int .u8 0] (grownCap w (cap + m) cap 5 - (cap + m)))) 5) := by
  have hb5 : Try.t5.bytes = 1 := by kernel_rfl
  have hs5 : Try.t5.size = 1 := by kernel_rfl
  have hnx := growslice_fits (need := cap + m) (old := cap) (bytes := 1) (by omega) (by omega)
  have hge := grownCap_ge w (cap + m) cap 5
  unfold grownCap at hge ⊢
  have hlc : len ≤ (Question.appendCap (cap + m) cap 5).cut (w.tape w.drawn (Question.appendCap (cap + m) cap 5)) := by omega
  generalize hcc : (Question.appendCap (cap + m) cap 5).cut (w.tape w.drawn (Question.appendCap (cap + m) cap 5)) = cc at *
  go_enter Try.func43, Try.ntmps43
  go_wp2
  all_goals (go_ret; exact ⟨rfl, by simp⟩)
set_option maxHeartbeats 1000000 in
theorem grow_none (len cap m : Nat) (n : Int) (w : World) (h0 : 0 ≤ n) (hn : (len : Int) + n ≤ 4294967296) (hl : len ≤ cap) (hcap : (cap : Int) ≤ 9223372036854775807) (h : (cap : Int) - len < n) (hm : n - ((cap : Int) - len) = m) :
    Calls Try.prog 43 #[.slice none len cap, .int .i64 n] w fun e w'' => e = .returned (.slice (some ⟨w.heap.size, 0, none⟩) len (grownCap w (cap + m) cap 5)) ∧
      w'' = w.drew.alloc (.cells (#[] ++ (Builtin.zeroCells #[.int .u8 0] m ++ Builtin.zeroCells #[.int .u8 0] (grownCap w (cap + m) cap 5 - (cap + m)))) 5) := by
  have hb5 : Try.t5.bytes = 1 := by kernel_rfl
  have hs5 : Try.t5.size = 1 := by kernel_rfl
  have hnx := growslice_fits (need := cap + m) (old := cap) (bytes := 1) (by omega) (by omega)
  have hge := grownCap_ge w (cap + m) cap 5
  unfold grownCap at hge ⊢
  have hlc : len ≤ (Question.appendCap (cap + m) cap 5).cut (w.tape w.drawn (Question.appendCap (cap + m) cap 5)) := by omega
  generalize hcc : (Question.appendCap (cap + m) cap 5).cut (w.tape w.drawn (Question.appendCap (cap + m) cap 5)) = cc at *
  go_enter Try.func43, Try.ntmps43
  go_wp2
  all_goals (go_ret; exact ⟨rfl, by simp⟩)

noncomputable def p_slices_GrowU8 {R : Type} (a0 : List Int) (a1 : Int) (K : List Int → Option R) : Option R := cond (decide (0 ≤ a1 ∧ (a0.length : Int) + a1 ≤ 4294967296)) (K a0) none
noncomputable def cs_slices_GrowU8 : CSpec := { ins := [(.val (.sl 5 (.int .u8)) (.o .s)), (.val (.int .i64) .s)], outs := [((.sl 5 (.int .u8)), (.o .s))], fn := fun (d : (List Int) × Int × Unit) K => p_slices_GrowU8 d.1 d.2.1 fun r0 => K ((r0, ()) : (List Int) × Unit) () }

theorem grow_rep {F : Blks} {w : World} {x : List Int} {A : Option Addr} {cap m : Nat} {fp : Blks} (hr : rep F w (.sl 5 (.int .u8)) (.o .s) x (cv (.slice A x.length cap)) fp) (xs : List Value) (c : Nat) (hc : cap + m ≤ c) (hcm : c ≤ 2 ^ 63 - 1) (hl : xs.length = cap) (hle : x.length ≤ cap)
    (hx : ∀ a, A = some a → ∀ j, j < x.length → xs.getD j undef = rowW w a.block (a.off + j) 0) (hA : A = none → x = []) {w' : World}
    (hw : w' = w.drew.alloc (.cells (xs.toArray ++ (Builtin.zeroCells #[.int .u8 0] m ++ Builtin.zeroCells #[.int .u8 0] (c - (cap + m)))) 5)) :
    rep F w' (.sl 5 (.int .u8)) (.o .s) x (cv (.slice (some ⟨w.heap.size, 0, none⟩) x.length c)) (fun b => b = w.heap.size ∨ ∃ i, (fun (_ : Nat) (_ : Nat) => False) i b) := by
  subst hw
  have hnew := alloc_new (w := w.drew) (ob := .cells (xs.toArray ++ (Builtin.zeroCells #[.int .u8 0] m ++ Builtin.zeroCells #[.int .u8 0] (c - (cap + m)))) 5)
  refine row_rep (t := .int .u8) (z := x) (fs := fun _ _ => False) hnew rfl ?_ (by show x.length ≤ c; omega) hcm ⟨fun _ _ _ _ hb => hb.elim⟩ (fun _ _ hb => hb.elim) fun i hi => ?_
  · simp [Builtin.zeroCells, hl, Ty.size]
    omega
  · have hi' : i < x.length := hi
    have hg : (xs.toArray ++ (Builtin.zeroCells #[.int .u8 0] m ++ Builtin.zeroCells #[.int .u8 0] (c - (cap + m)))).getD (i * Ty.size (.int .u8) + 0) undef = xs.getD i undef := by
      simp only [Ty.size, Nat.mul_one, Nat.add_zero, Array.getD_eq_getD_getElem?, List.getD_eq_getElem?_getD]
      rw [Array.getElem?_append_left (by simp; omega)]
      simp
    cases A with
    | none => rw [hA rfl] at hi'; simp at hi'
    | some a =>
      simp only [rep] at hr
      obtain ⟨A', cap', r1, r2, r3, r4, r5⟩ := hr
      have r1' : Value.slice (some a) x.length cap = .slice A' x.length cap' := r1
      cases r1'
      obtain ⟨_, _, _, fs, _, _, r6⟩ := r5 a rfl
      have r7 := r6 i hi
      show _ ∧ _
      have r8 : rowW w a.block (a.off + i * Ty.size (.int .u8)) 0 = .int .u8 (x.getD i 0) ∧ IntKind.u8.has (x.getD i 0) := r7
      refine ⟨hg.trans ((hx a rfl i hi').trans ?_), r8.2⟩
      have r9 := r8.1
      simp only [Ty.size, Nat.mul_one] at r9
      exact r9

theorem h_slices_GrowU8 : Holds Try.prog 43 cs_slices_GrowU8 := by
  refine ⟨⟨Try.f43, _, Try.func43, by kernel_rfl, rfl⟩, ?_⟩
  intro F w (d : List Int × Int × Unit) vs fps R K res hFs hd hfp hargs hcall
  obtain ⟨x, n, u⟩ := d
  obtain ⟨v0, vs1, rfl, i0, _, r0, v1, vs2, rfl, i1, _, r1, h2⟩ := hargs
  have h2 : vs2 = [] := h2
  subst h2
  obtain ⟨e1, k1⟩ := rep_int i1 (by intro h; cases h) r1
  subst e1
  have hcall' : cond (decide (0 ≤ n ∧ ((x : List Int).length : Int) + n ≤ 4294967296)) (K (x, ()) ()) none = some res := hcall
  by_cases hb : 0 ≤ n ∧ ((x : List Int).length : Int) + n ≤ 4294967296
  · rw [decide_eq_true hb] at hcall'
    have hK : K (x, ()) () = some res := hcall'
    have hr0 := r0
    simp only [rep] at r0
    obtain ⟨A, cap, q1, q2, q3, q4, q5⟩ := r0
    have hv0 : v0 = .slice A (List.length (α := Int) x) cap := by
      have h2 : v0 = valOf (.sl 5 (.int .u8)) (cv v0) := i0
      rw [h2]
      simp only [valOf, Ty.agg, Bool.false_eq_true, if_false]
      exact q1
    subst hv0
    have q2' : List.length (α := Int) x ≤ cap := q2
    by_cases hs : n ≤ (cap : Int) - List.length (α := Int) x
    · refine (grow_small A _ cap n w hb.1 hb.2 q2' (by omega) hs).mono fun e w' he => ?_
      obtain ⟨rfl, rfl⟩ := he
      refine ⟨_, (x, ()), (), F, fps 0, fun _ _ => False, rfl, hK, fun _ hb => hb, Grew.refl _, fun _ _ _ => rfl, ⟨fun _ => i0, hr0⟩, ⟨⟨fun _ _ _ _ hb => hb.elim⟩, fun _ _ hb => hb.elim, trivial⟩, fun b hb => ?_, fun b hb => ⟨hFs b hb, .inl hb⟩⟩
      rcases hb with hb | ⟨_, hb⟩
      · exact ⟨(hfp 0 b hb).1, (hfp 0 b hb).2, .inl ⟨0, hb⟩⟩
      · exact hb.elim
    · obtain ⟨m, hm⟩ : ∃ m : Nat, n - ((cap : Int) - List.length (α := Int) x) = m := ⟨_, (Int.toNat_of_nonneg (by omega)).symm⟩
      have hgc := grownCap_ge w (cap + m) cap 5
      have hmx := grownCap_le_maxLen w (cap + m) cap 5 (by unfold maxLen; omega)
      have hmx' : grownCap w (cap + m) cap 5 ≤ 2 ^ 63 - 1 := hmx
      have fin : ∀ (xs : List Value), xs.length = cap → (∀ a, A = some a → ∀ j, j < List.length (α := Int) x → xs.getD j undef = rowW w a.block (a.off + j) 0) → (A = none → (x : List Int) = []) → ∀ (e : Ending) (w' : World),
          (e = .returned (.slice (some ⟨w.heap.size, 0, none⟩) (List.length (α := Int) x) (grownCap w (cap + m) cap 5)) ∧ w' = w.drew.alloc (.cells (xs.toArray ++ (Builtin.zeroCells #[.int .u8 0] m ++ Builtin.zeroCells #[.int .u8 0] (grownCap w (cap + m) cap 5 - (cap + m)))) 5)) →
          ∃ v ro rb, ∃ F' fo : Blks, ∃ fb : Nat → Blks, e = .returned v ∧ K ro rb = some res ∧ (∀ b, F b → F' b) ∧ Grew w w' ∧ (∀ b, b < w.heap.size → (∀ i, ¬ fps i b) → Same w w' b) ∧
            ResR F' w' v fo (resS cs_slices_GrowU8.outs ro) ∧ (Disj fb ∧ (∀ i b, fb i b → ¬ fo b) ∧ BackR F' w' cs_slices_GrowU8.ins rb [.slice A (List.length (α := Int) x) cap, .int .i64 n] fb) ∧ (∀ b, (fo b ∨ ∃ i, fb i b) → ¬ F' b ∧ b < w'.heap.size ∧ ((∃ i, fps i b) ∨ w.heap.size ≤ b)) ∧ (∀ b, F' b → b < w'.heap.size ∧ (F b ∨ (∃ i, fps i b) ∨ w.heap.size ≤ b)) := by
        intro xs hl hx hA e w' he
        obtain ⟨rfl, rfl⟩ := he
        have hsz : (w.drew.alloc (.cells (xs.toArray ++ (Builtin.zeroCells #[.int .u8 0] m ++ Builtin.zeroCells #[.int .u8 0] (grownCap w (cap + m) cap 5 - (cap + m)))) 5)).heap.size = w.heap.size + 1 := World.size_alloc w.drew _
        have hrep := grow_rep (m := m) hr0 xs _ hgc hmx' hl q2' hx hA rfl
        refine ⟨_, (x, ()), (), F, _, fun _ _ => False, rfl, hK, fun _ hb => hb, ⟨⟨rfl, rfl, rfl⟩, by omega⟩, fun b hb _ => alloc_old (w := w.drew) hb, ⟨fun _ => isV_sl, hrep⟩, ⟨⟨fun _ _ _ _ hb => hb.elim⟩, fun _ _ hb => hb.elim, trivial⟩, fun b hb => ?_, fun b hb => ⟨?_, .inl hb⟩⟩
        · rcases hb with (hb | ⟨_, hb⟩) | ⟨_, hb⟩
          · subst hb
            exact ⟨fun hc => Nat.lt_irrefl _ (hFs _ hc), by omega, .inr (Nat.le_refl _)⟩
          · exact hb.elim
          · exact hb.elim
        · have := hFs b hb
          omega
      cases A with
      | none =>
        have hc0 : cap = 0 := q4 rfl
        subst hc0
        refine (grow_none _ 0 m n w hb.1 hb.2 q2' (by omega) (by omega) hm).mono fun e w' he => fin [] rfl nofun (fun _ => List.eq_nil_of_length_eq_zero (Nat.le_zero.1 q2')) e w' he
      | some a =>
        by_cases hc0 : cap = 0
        · subst hc0
          have hx0 : (x : List Int) = [] := List.eq_nil_of_length_eq_zero (Nat.le_zero.1 q2')
          refine (grow_some a _ 0 m n w hb.1 hb.2 q2' (by omega) (by omega) hm [] (by rfl)).mono fun e w' he => fin [] rfl (fun a' _ j hj => by rw [hx0] at hj; simp at hj) (fun _ => hx0) e w' he
        obtain ⟨hsp, p1, p2, _⟩ := q5 a rfl
        replace hsp := hsp (by omega)
        obtain ⟨b, k, sp⟩ := a
        simp only at hsp
        subst hsp
        simp only [Ty.size, Nat.mul_one] at p1 p2
        have hld := run_loadCellsFrom (P := Try.prog) (w := w.drew) ⟨b, k, none⟩ (fun j => rowW w b (k + j) 0) cap 0 #[] (fun j hj => by
          rw [World.cell?_drew, addr_add, cell_row p2 (by omega)]
          simp only [rowW, Nat.zero_add, rowOf, Nat.add_zero])
        refine (grow_some _ _ cap m n w hb.1 hb.2 q2' (by omega) (by omega) hm ((List.range cap).map fun j => rowW w b (k + j) 0) ?_).mono fun e w' he => fin _ (by simp) (fun a ha j hj => ?_) nofun e w' he
        · rw [hld]
          simp
        · cases ha
          have : j < cap := by omega
          simp [List.getD, this]
  · rw [decide_eq_false hb] at hcall'
    cases hcall'

-- f38 slices.Concat[[]byte,byte]
noncomputable def fz_slices_ConcatU8 : Nat → Bool
  | _ => false
noncomputable def lv_slices_ConcatU8 : Nat → Option (List Nat)
  | _ => none
noncomputable def gam_slices_ConcatU8 : FuncId → Option CSpec
  | 43 => some cs_slices_GrowU8
  | _ => none
theorem gamOk_slices_ConcatU8 : EnvFn Try.prog (envOf gam_slices_ConcatU8 Try.f38.ntmps fz_slices_ConcatU8 lv_slices_ConcatU8) := by
  intro f c h
  unfold envOf gam_slices_ConcatU8 at h
  simp only at h
  split at h <;> first | (cases h; done) | (cases h; exact h_slices_GrowU8)
structure X_slices_ConcatU8_11 where
  f6 : List (Int)
  f25 : List (List (Int))
  f26 : Int
  f27 : Int

noncomputable def B_slices_ConcatU8_11 {R : Type} (k_exit_2 : (List (Int)) → Option R) (rec : X_slices_ConcatU8_11 → Option R) (x : X_slices_ConcatU8_11) : Option R :=
  let v1 := decide (x.f27 < x.f26)
  cond v1
  (cond (inB x.f27 (List.length x.f25))
  (let v2 := List.getD x.f25 x.f27.toNat ([] : List (Int))
  cond (decide (List.length x.f6 + List.length v2 ≤ most))
  (let v3 := x.f6 ++ v2
  let v4 := IntKind.i64.wrap (x.f27 + (1 : Int))
  rec ⟨v3, x.f25, x.f26, v4⟩) none) none)
  (k_exit_2 x.f6)
noncomputable def S_slices_ConcatU8_11 (x : X_slices_ConcatU8_11) : St := St.ofList [(6, (.v (.sl 5 (.int .u8)) (.o .s) x.f6)), (25, (.v (.sl 25 (.sl 5 (.int .u8))) .s x.f25)), (26, (.v (.int .i64) .s x.f26)), (27, (.v (.int .i64) .s x.f27))]
def out_slices_ConcatU8_11 : Ex → List Nat | (.exit 2) => [6] | _ => []
noncomputable def fuel_slices_ConcatU8_11 (x : X_slices_ConcatU8_11) : Nat := fuel64
structure X_slices_ConcatU8_3 where
  f0 : List (List (Int))
  f3 : Int
  f9 : List (List (Int))
  f10 : Int
  f11 : Int

noncomputable def B_slices_ConcatU8_3 {R : Type} (k_exit_0 : (List (List (Int))) → Int → Option R) (rec : X_slices_ConcatU8_3 → Option R) (x : X_slices_ConcatU8_3) : Option R :=
  let v1 := decide (x.f11 < x.f10)
  cond v1
  (cond (inB x.f11 (List.length x.f9))
  (let v2 := List.getD x.f9 x.f11.toNat ([] : List (Int))
  let v3 := ((List.length v2 : Nat) : Int)
  let v4 := IntKind.i64.wrap (x.f3 + v3)
  let v5 := decide (v4 < (0 : Int))
  cond v5
  (none)
  (let v6 := IntKind.i64.wrap (x.f11 + (1 : Int))
  rec ⟨x.f0, v4, x.f9, x.f10, v6⟩)) none)
  (k_exit_0 x.f0 x.f3)
noncomputable def S_slices_ConcatU8_3 (x : X_slices_ConcatU8_3) : St := St.ofList [(0, (.v (.sl 25 (.sl 5 (.int .u8))) .s x.f0)), (3, (.v (.int .i64) .s x.f3)), (9, (.v (.sl 25 (.sl 5 (.int .u8))) .s x.f9)), (10, (.v (.int .i64) .s x.f10)), (11, (.v (.int .i64) .s x.f11))]
def out_slices_ConcatU8_3 : Ex → List Nat | (.exit 0) => [0, 3] | _ => []
noncomputable def fuel_slices_ConcatU8_3 (x : X_slices_ConcatU8_3) : Nat := fuel64
noncomputable def lp_slices_ConcatU8 : Loops := fun i R st K => match i with
  | 11 => match st 6, st 25, st 26, st 27 with
    | (.v (.sl 5 (.int .u8)) (.o .s) y6), (.v (.sl 25 (.sl 5 (.int .u8))) .s y25), (.v (.int .i64) .s y26), (.v (.int .i64) .s y27) => loopN (B_slices_ConcatU8_11 (fun e6 => K (.exit 2) (St.ofList [(6, (.v (.sl 5 (.int .u8)) (.o .s) e6))]))) (fuel_slices_ConcatU8_11 ⟨y6, y25, y26, y27⟩) ⟨y6, y25, y26, y27⟩
    | _, _, _, _ => none
  | 3 => match st 0, st 3, st 9, st 10, st 11 with
    | (.v (.sl 25 (.sl 5 (.int .u8))) .s y0), (.v (.int .i64) .s y3), (.v (.sl 25 (.sl 5 (.int .u8))) .s y9), (.v (.int .i64) .s y10), (.v (.int .i64) .s y11) => loopN (B_slices_ConcatU8_3 (fun e0 e3 => K (.exit 0) (St.ofList [(0, (.v (.sl 25 (.sl 5 (.int .u8))) .s e0)), (3, (.v (.int .i64) .s e3))]))) (fuel_slices_ConcatU8_3 ⟨y0, y3, y9, y10, y11⟩) ⟨y0, y3, y9, y10, y11⟩
    | _, _, _, _, _ => none
  | _ => none
noncomputable def c_slices_ConcatU8_11 : Code := match loopAt 11 (body Try.f38.body) with | some c => c | none => .skip
theorem step_slices_ConcatU8_11 (R : Type) (K : Ex → St → Option R) (rec : St → Option R) (x : X_slices_ConcatU8_11) : evC (envOf gam_slices_ConcatU8 Try.f38.ntmps fz_slices_ConcatU8 lv_slices_ConcatU8) lp_slices_ConcatU8 c_slices_ConcatU8_11 (S_slices_ConcatU8_11 x) (fun e st => match e with | .normal => rec (st.only [6, 25, 26, 27]) | e => K e (st.only (out_slices_ConcatU8_11 e))) = B_slices_ConcatU8_11 (fun e6 => K (.exit 2) (St.ofList [(6, (.v (.sl 5 (.int .u8)) (.o .s) e6))])) (fun x => rec (S_slices_ConcatU8_11 x)) x := by kernel_rfl
theorem ok_slices_ConcatU8_11 : LoopOk (envOf gam_slices_ConcatU8 Try.f38.ntmps fz_slices_ConcatU8 lv_slices_ConcatU8) lp_slices_ConcatU8 c_slices_ConcatU8_11 := by
  refine loopOk_of (hd := [6, 25, 26, 27]) (out := out_slices_ConcatU8_11) (S := S_slices_ConcatU8_11) (fun _ K => B_slices_ConcatU8_11 (fun e6 => K (.exit 2) (St.ofList [(6, (.v (.sl 5 (.int .u8)) (.o .s) e6))]))) fuel_slices_ConcatU8_11 11 step_slices_ConcatU8_11 (fun x => by kernel_rfl) (by kernel_rfl) ?_
  intro R st K r h
  unfold lp_slices_ConcatU8 at h
  simp only at h
  split at h
  · rename_i y6 y25 y26 y27 hy6 hy25 hy26 hy27
    refine ⟨⟨y6, y25, y26, y27⟩, ?_, h⟩
    show St.ofList [(6, st 6), (25, st 25), (26, st 26), (27, st 27)] = _
    rw [hy6, hy25, hy26, hy27]
    rfl
  · cases h
noncomputable def c_slices_ConcatU8_3 : Code := match loopAt 3 (body Try.f38.body) with | some c => c | none => .skip
theorem step_slices_ConcatU8_3 (R : Type) (K : Ex → St → Option R) (rec : St → Option R) (x : X_slices_ConcatU8_3) : evC (envOf gam_slices_ConcatU8 Try.f38.ntmps fz_slices_ConcatU8 lv_slices_ConcatU8) lp_slices_ConcatU8 c_slices_ConcatU8_3 (S_slices_ConcatU8_3 x) (fun e st => match e with | .normal => rec (st.only [0, 3, 9, 10, 11]) | e => K e (st.only (out_slices_ConcatU8_3 e))) = B_slices_ConcatU8_3 (fun e0 e3 => K (.exit 0) (St.ofList [(0, (.v (.sl 25 (.sl 5 (.int .u8))) .s e0)), (3, (.v (.int .i64) .s e3))])) (fun x => rec (S_slices_ConcatU8_3 x)) x := by kernel_rfl
theorem ok_slices_ConcatU8_3 : LoopOk (envOf gam_slices_ConcatU8 Try.f38.ntmps fz_slices_ConcatU8 lv_slices_ConcatU8) lp_slices_ConcatU8 c_slices_ConcatU8_3 := by
  refine loopOk_of (hd := [0, 3, 9, 10, 11]) (out := out_slices_ConcatU8_3) (S := S_slices_ConcatU8_3) (fun _ K => B_slices_ConcatU8_3 (fun e0 e3 => K (.exit 0) (St.ofList [(0, (.v (.sl 25 (.sl 5 (.int .u8))) .s e0)), (3, (.v (.int .i64) .s e3))]))) fuel_slices_ConcatU8_3 3 step_slices_ConcatU8_3 (fun x => by kernel_rfl) (by kernel_rfl) ?_
  intro R st K r h
  unfold lp_slices_ConcatU8 at h
  simp only at h
  split at h
  · rename_i y0 y3 y9 y10 y11 hy0 hy3 hy9 hy10 hy11
    refine ⟨⟨y0, y3, y9, y10, y11⟩, ?_, h⟩
    show St.ofList [(0, st 0), (3, st 3), (9, st 9), (10, st 10), (11, st 11)] = _
    rw [hy0, hy3, hy9, hy10, hy11]
    rfl
  · cases h
noncomputable def p_slices_ConcatU8 {R : Type} (a0 : List (List (Int))) (K : (List (Int)) → Option R) : Option R :=
  let v1 := ((List.length a0 : Nat) : Int)
  loopN (B_slices_ConcatU8_3 (fun w2 w3 => p_slices_GrowU8 ([] : List (Int)) w3 fun r4 =>
  let v5 := ((List.length w2 : Nat) : Int)
  loopN (B_slices_ConcatU8_11 (fun w6 => K w6)) (fuel_slices_ConcatU8_11 ⟨r4, w2, v5, (0 : Int)⟩) ⟨r4, w2, v5, (0 : Int)⟩)) (fuel_slices_ConcatU8_3 ⟨a0, (0 : Int), a0, v1, (0 : Int)⟩) ⟨a0, (0 : Int), a0, v1, (0 : Int)⟩
noncomputable def cs_slices_ConcatU8 : CSpec := { ins := [(.val (.sl 25 (.sl 5 (.int .u8))) .s)], outs := [((.sl 5 (.int .u8)), (.o .s))], fn := fun (d : (List (List (Int))) × Unit) K => p_slices_ConcatU8 d.1 fun r0 => K ((r0, ()) : (List (Int)) × Unit) ((()) : Unit) }
theorem h_slices_ConcatU8 : Holds Try.prog 38 cs_slices_ConcatU8 := by
  refine holds_of (env := envOf gam_slices_ConcatU8 Try.f38.ntmps fz_slices_ConcatU8 lv_slices_ConcatU8) (fn := Try.f38) (code := body Try.f38.body) (rs := [(2, none)]) (lp := lp_slices_ConcatU8) mixed (envTyOk _ _ _ _) gamOk_slices_ConcatU8 Try.func38 (by kernel_rfl) (by kernel_rfl) (by kernel_rfl) (by kernel_rfl) (by kernel_rfl) (loopsOk_of fun c hc => ?_) (by kernel_rfl) ?_
  · rw [show loopsL (body Try.f38.body) = [c_slices_ConcatU8_3, c_slices_ConcatU8_11] by kernel_rfl] at hc
    simp only [List.mem_cons, List.not_mem_nil, or_false] at hc
    rcases hc with rfl | rfl
    · exact ok_slices_ConcatU8_3
    · exact ok_slices_ConcatU8_11
  intro d R K res h
  have : evC (envOf gam_slices_ConcatU8 Try.f38.ntmps fz_slices_ConcatU8 lv_slices_ConcatU8) lp_slices_ConcatU8 (body Try.f38.body) (St.start cs_slices_ConcatU8.ins d) (retK (envOf gam_slices_ConcatU8 Try.f38.ntmps fz_slices_ConcatU8 lv_slices_ConcatU8) cs_slices_ConcatU8.ins cs_slices_ConcatU8.outs [(2, none)] K) = cs_slices_ConcatU8.fn d K := by kernel_rfl
  rw [this]; exact h
-- f24 trammel/utf.PutName
noncomputable def fz_utf_PutName : Nat → Bool
  | _ => false
noncomputable def lv_utf_PutName : Nat → Option (List Nat)
  | _ => none
noncomputable def gam_utf_PutName : FuncId → Option CSpec
  | 11 => some cs_utf_Valid
  | 36 => some cs_leb_PutU
  | 38 => some cs_slices_ConcatU8
  | _ => none
theorem gamOk_utf_PutName : EnvFn Try.prog (envOf gam_utf_PutName Try.f24.ntmps fz_utf_PutName lv_utf_PutName) := by
  intro f c h
  unfold envOf gam_utf_PutName at h
  simp only at h
  split at h <;> first | (cases h; done) | (cases h; exact h_utf_Valid) | (cases h; exact h_leb_PutU) | (cases h; exact h_slices_ConcatU8)
noncomputable def p_utf_PutName {R : Type} (a0 : List (Int)) (a1 : List UInt8) (K : (List (Int)) → Int → Option R) : Option R :=
  p_utf_Valid a1 fun r1 =>
  let v2 := !r1
  cond v2
  (K ([] : List (Int)) (2 : Int))
  (let v3 := ((List.length a1 : Nat) : Int)
  let v4 := decide (v3 > (64 : Int))
  cond v4
  (K ([] : List (Int)) (4 : Int))
  (let v5 := ((List.length a1 : Nat) : Int)
  let v6 := IntKind.u64.wrap v5
  p_leb_PutU a0 v6 fun r7 =>
  cond (decide (List.length a1 ≤ most))
  (let v8 := nums a1
  let v9 := List.set (List.set (List.replicate 2 ([] : List (Int))) 0 r7) 1 v8
  p_slices_ConcatU8 v9 fun r10 =>
  K r10 (0 : Int)) none))
noncomputable def cs_utf_PutName : CSpec := { ins := [(.val (.sl 5 (.int .u8)) .s), (.val .str .s)], outs := [((.sl 5 (.int .u8)), (.o .s)), ((.int .i64), .s)], fn := fun (d : (List (Int)) × (List UInt8) × Unit) K => p_utf_PutName d.1 d.2.1 fun r0 r1 => K ((r0, r1, ()) : (List (Int)) × Int × Unit) ((()) : Unit) }
theorem h_utf_PutName : Holds Try.prog 24 cs_utf_PutName := by
  refine holds_of (env := envOf gam_utf_PutName Try.f24.ntmps fz_utf_PutName lv_utf_PutName) (fn := Try.f24) (code := body Try.f24.body) (rs := [(4, none), (5, none)]) (lp := lp0) mixed (envTyOk _ _ _ _) gamOk_utf_PutName Try.func24 (by kernel_rfl) (by kernel_rfl) (by kernel_rfl) (by kernel_rfl) (by kernel_rfl) (loopsOk_none (by kernel_rfl)) (by kernel_rfl) ?_
  intro d R K res h
  have : evC (envOf gam_utf_PutName Try.f24.ntmps fz_utf_PutName lv_utf_PutName) lp0 (body Try.f24.body) (St.start cs_utf_PutName.ins d) (retK (envOf gam_utf_PutName Try.f24.ntmps fz_utf_PutName lv_utf_PutName) cs_utf_PutName.ins cs_utf_PutName.outs [(4, none), (5, none)] K) = cs_utf_PutName.fn d K := by kernel_rfl
  rw [this]; exact h
-- f26 trammel/trammelref02.Bytes
noncomputable def fz_ref02_Bytes : Nat → Bool
  | _ => false
noncomputable def lv_ref02_Bytes : Nat → Option (List Nat)
  | _ => none
noncomputable def gam_ref02_Bytes : FuncId → Option CSpec
  | 37 => some cs_ref01_PutU
  | _ => none
theorem gamOk_ref02_Bytes : EnvFn Try.prog (envOf gam_ref02_Bytes Try.f26.ntmps fz_ref02_Bytes lv_ref02_Bytes) := by
  intro f c h
  unfold envOf gam_ref02_Bytes at h
  simp only at h
  split at h <;> first | (cases h; done) | (cases h; exact h_ref01_PutU)
noncomputable def p_ref02_Bytes {R : Type} (a0 : List UInt8) (K : (List (Int)) → Option R) : Option R :=
  let v1 := ((List.length a0 : Nat) : Int)
  let v2 := IntKind.u64.wrap v1
  p_ref01_PutU v2 fun r3 =>
  cond (decide (List.length r3 + List.length (nums a0) ≤ most))
  (let v4 := r3 ++ (nums a0)
  K v4) none
noncomputable def cs_ref02_Bytes : CSpec := { ins := [(.val .str .s)], outs := [((.sl 5 (.int .u8)), (.o .s))], fn := fun (d : (List UInt8) × Unit) K => p_ref02_Bytes d.1 fun r0 => K ((r0, ()) : (List (Int)) × Unit) ((()) : Unit) }
theorem h_ref02_Bytes : Holds Try.prog 26 cs_ref02_Bytes := by
  refine holds_of (env := envOf gam_ref02_Bytes Try.f26.ntmps fz_ref02_Bytes lv_ref02_Bytes) (fn := Try.f26) (code := body Try.f26.body) (rs := [(2, none)]) (lp := lp0) mixed (envTyOk _ _ _ _) gamOk_ref02_Bytes Try.func26 (by kernel_rfl) (by kernel_rfl) (by kernel_rfl) (by kernel_rfl) (by kernel_rfl) (loopsOk_none (by kernel_rfl)) (by kernel_rfl) ?_
  intro d R K res h
  have : evC (envOf gam_ref02_Bytes Try.f26.ntmps fz_ref02_Bytes lv_ref02_Bytes) lp0 (body Try.f26.body) (St.start cs_ref02_Bytes.ins d) (retK (envOf gam_ref02_Bytes Try.f26.ntmps fz_ref02_Bytes lv_ref02_Bytes) cs_ref02_Bytes.ins cs_ref02_Bytes.outs [(2, none)] K) = cs_ref02_Bytes.fn d K := by kernel_rfl
  rw [this]; exact h
-- f9 trammel/trammellaw02.UtfNames
noncomputable def fz_law02_UtfNames : Nat → Bool
  | _ => false
noncomputable def lv_law02_UtfNames : Nat → Option (List Nat)
  | 0 => some [0, 1]
  | 1 => some [0, 1]
  | 2 => some []
  | 3 => some [0, 1]
  | 4 => some [0, 1]
  | 5 => some [0, 1, 5, 6, 7]
  | 6 => some [0, 1, 5, 6, 7, 8, 9, 10]
  | 7 => some []
  | 8 => some [0, 1]
  | 9 => some [0, 1, 7, 11]
  | 10 => some [7, 11]
  | 11 => some [0, 1, 7, 11]
  | 12 => some [7, 11]
  | 13 => some [0, 1, 7, 11]
  | _ => none
noncomputable def gam_law02_UtfNames : FuncId → Option CSpec
  | 10 => some cs_law02_awake
  | 12 => some cs_ref02_Valid
  | 21 => some cs_ref01_Same
  | 22 => some cs_utf_Name
  | 23 => some cs_ref02_Name
  | 24 => some cs_utf_PutName
  | 25 => some cs_ref01_Copy
  | 26 => some cs_ref02_Bytes
  | _ => none
theorem gamOk_law02_UtfNames : EnvFn Try.prog (envOf gam_law02_UtfNames Try.f9.ntmps fz_law02_UtfNames lv_law02_UtfNames) := by
  intro f c h
  unfold envOf gam_law02_UtfNames at h
  simp only at h
  split at h <;> first | (cases h; done) | (cases h; exact h_law02_awake) | (cases h; exact h_ref02_Valid) | (cases h; exact h_ref01_Same) | (cases h; exact h_utf_Name) | (cases h; exact h_ref02_Name) | (cases h; exact h_utf_PutName) | (cases h; exact h_ref01_Copy) | (cases h; exact h_ref02_Bytes)
noncomputable def p_law02_UtfNames {R : Type} (a0 : List (Int)) (a1 : List UInt8) (K : Bool → Option R) : Option R :=
  p_law02_awake  fun r1 =>
  let v2 := !r1
  cond v2
  (K false)
  (let v3 := ((List.length a0 : Nat) : Int)
  let v4 := minI v3 (1000 : Int)
  cond (inR (0 : Int) v4 (List.length a0))
  (let v5 := rng a0 (0 : Int) v4
  let v6 := ((List.length a1 : Nat) : Int)
  let v7 := minI v6 (1000 : Int)
  cond (inR (0 : Int) v7 (List.length a1))
  (let v8 := rng a1 (0 : Int) v7
  p_utf_Name v5 fun r9 r10 r11 =>
  p_ref02_Name v5 fun r12 r13 r14 =>
  let v15 := !(r9 == r12)
  cond v15
  (K false)
  (let v16 := r10 != r13
  cond v16
  (K false)
  (let v17 := r11 != r14
  cond v17
  (K false)
  (p_utf_PutName v5 v8 fun r18 r19 =>
  p_ref02_Valid v8 fun r20 =>
  let v21 := !r20
  cond v21
  (let v22 := r19 == (2 : Int)
  cond v22
  (let v23 := ((List.length r18 : Nat) : Int)
  let v24 := v23 == (0 : Int)
  K v24)
  (K false))
  (let v25 := ((List.length v8 : Nat) : Int)
  let v26 := decide (v25 > (64 : Int))
  cond v26
  (let v27 := r19 == (4 : Int)
  cond v27
  (let v28 := ((List.length r18 : Nat) : Int)
  let v29 := v28 == (0 : Int)
  K v29)
  (K false))
  (let v30 := r19 == (0 : Int)
  cond v30
  (p_ref01_Copy v5 fun r31 =>
  p_ref02_Bytes v8 fun r32 =>
  cond (decide (List.length r31 + List.length r32 ≤ most))
  (let v33 := r31 ++ r32
  p_ref01_Same r18 v33 fun r34 =>
  K r34) none)
  (K false))))))) none) none)
noncomputable def cs_law02_UtfNames : CSpec := { ins := [(.val (.sl 5 (.int .u8)) .s), (.val .str .s)], outs := [(.bool, .s)], fn := fun (d : (List (Int)) × (List UInt8) × Unit) K => p_law02_UtfNames d.1 d.2.1 fun r0 => K ((r0, ()) : Bool × Unit) ((()) : Unit) }
theorem h_law02_UtfNames : Holds Try.prog 9 cs_law02_UtfNames := by
  refine holds_of (env := envOf gam_law02_UtfNames Try.f9.ntmps fz_law02_UtfNames lv_law02_UtfNames) (fn := Try.f9) (code := body Try.f9.body) (rs := [(4, none)]) (lp := lp0) mixed (envTyOk _ _ _ _) gamOk_law02_UtfNames Try.func9 (by kernel_rfl) (by kernel_rfl) (by kernel_rfl) (by kernel_rfl) (by kernel_rfl) (loopsOk_none (by kernel_rfl)) (by kernel_rfl) ?_
  intro d R K res h
  have : evC (envOf gam_law02_UtfNames Try.f9.ntmps fz_law02_UtfNames lv_law02_UtfNames) lp0 (body Try.f9.body) (St.start cs_law02_UtfNames.ins d) (retK (envOf gam_law02_UtfNames Try.f9.ntmps fz_law02_UtfNames lv_law02_UtfNames) cs_law02_UtfNames.ins cs_law02_UtfNames.outs [(4, none)] K) = cs_law02_UtfNames.fn d K := by kernel_rfl
  rw [this]; exact h
end Go.Trm.G1
