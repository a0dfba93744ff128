import Derived.Test.YthidebepdpkgkabTrmHand
import Derived.Test.YthidebepdpkgkabProg
import Derived.KernelRfl
set_option linter.unusedVariables false
set_option linter.unusedSimpArgs false
namespace Go.Trm.G1
open Go.Proofs
set_option maxRecDepth 100000
noncomputable def envTy : TypeId → Option Ty
  | 2 => some (.int .i64)
  | 3 => some (.int .i64)
  | 4 => some .bool
  | 5 => some (.int .u8)
  | 6 => some (.int .u8)
  | 7 => some (.pair (.int .i64) (.pair (.int .i64) (.pair .bool (.pair (.int .u8) .unit))))
  | 8 => some (.pair (.int .i64) (.pair (.int .i64) (.pair .bool (.pair (.int .u8) .unit))))
  | 9 => some .str
  | 10 => some .str
  | 11 => some .str
  | 12 => some (.int .u64)
  | 13 => some (.pair .str (.pair (.int .u64) .unit))
  | 14 => some (.pair .str (.pair (.int .u64) .unit))
  | 21 => some (.int .i32)
  | 22 => some (.sl 5 (.int .u8))
  | 24 => some (.int .i64)
  | 32 => some (.sl 89 (.pair (.sl 86 (.sl 85 (.pair (.pair (.int .u64) (.pair (.int .u64) .unit)) (.pair (.pair (.int .i64) (.pair (.int .u64) .unit)) .unit)))) .unit))
  | 43 => some (.pair .str (.pair (.sl 5 (.int .u8)) .unit))
  | 44 => some (.pair .str (.pair (.sl 5 (.int .u8)) .unit))
  | 51 => some (.sl 112 (.pair (.sl 3 (.int .i64)) (.pair (.sl 3 (.int .i64)) .unit)))
  | 52 => some (.sl 117 (.pair .str (.pair .str (.pair (.int .i64) (.pair (.int .i64) (.pair (.pair (.int .i64) (.pair .bool (.pair (.int .i64) .unit))) (.pair .bool .unit)))))))
  | 53 => some (.sl 120 (.pair (.int .i64) (.pair (.sl 3 (.int .i64)) (.pair (.sl 170 (.pair (.int .i64) (.pair (.int .i64) (.pair (.int .i64) (.pair (.int .i64) (.pair (.sl 3 (.int .i64)) .unit)))))) .unit))))
  | 54 => some (.sl 115 (.pair (.int .i64) (.pair .bool (.pair (.int .i64) .unit))))
  | 55 => some (.sl 123 (.pair (.int .i64) (.pair .bool (.pair (.sl 170 (.pair (.int .i64) (.pair (.int .i64) (.pair (.int .i64) (.pair (.int .i64) (.pair (.sl 3 (.int .i64)) .unit)))))) .unit))))
  | 56 => some (.sl 125 (.pair .str (.pair (.int .i64) (.pair (.int .i64) .unit))))
  | 57 => some (.sl 3 (.int .i64))
  | 58 => some (.sl 127 (.pair (.int .i64) (.pair (.sl 170 (.pair (.int .i64) (.pair (.int .i64) (.pair (.int .i64) (.pair (.int .i64) (.pair (.sl 3 (.int .i64)) .unit)))))) (.pair (.sl 3 (.int .i64)) .unit))))
  | 59 => some (.sl 129 (.pair (.int .i64) (.pair (.sl 170 (.pair (.int .i64) (.pair (.int .i64) (.pair (.int .i64) (.pair (.int .i64) (.pair (.sl 3 (.int .i64)) .unit)))))) (.pair (.sl 5 (.int .u8)) .unit))))
  | 60 => some (.sl 44 (.pair .str (.pair (.sl 5 (.int .u8)) .unit)))
  | 61 => some (.pair (.sl 112 (.pair (.sl 3 (.int .i64)) (.pair (.sl 3 (.int .i64)) .unit))) (.pair (.sl 117 (.pair .str (.pair .str (.pair (.int .i64) (.pair (.int .i64) (.pair (.pair (.int .i64) (.pair .bool (.pair (.int .i64) .unit))) (.pair .bool .unit))))))) (.pair (.sl 120 (.pair (.int .i64) (.pair (.sl 3 (.int .i64)) (.pair (.sl 170 (.pair (.int .i64) (.pair (.int .i64) (.pair (.int .i64) (.pair (.int .i64) (.pair (.sl 3 (.int .i64)) .unit)))))) .unit)))) (.pair (.sl 115 (.pair (.int .i64) (.pair .bool (.pair (.int .i64) .unit)))) (.pair (.sl 115 (.pair (.int .i64) (.pair .bool (.pair (.int .i64) .unit)))) (.pair (.sl 123 (.pair (.int .i64) (.pair .bool (.pair (.sl 170 (.pair (.int .i64) (.pair (.int .i64) (.pair (.int .i64) (.pair (.int .i64) (.pair (.sl 3 (.int .i64)) .unit)))))) .unit)))) (.pair (.sl 125 (.pair .str (.pair (.int .i64) (.pair (.int .i64) .unit)))) (.pair (.sl 3 (.int .i64)) (.pair (.sl 127 (.pair (.int .i64) (.pair (.sl 170 (.pair (.int .i64) (.pair (.int .i64) (.pair (.int .i64) (.pair (.int .i64) (.pair (.sl 3 (.int .i64)) .unit)))))) (.pair (.sl 3 (.int .i64)) .unit)))) (.pair (.sl 3 (.int .i64)) (.pair (.sl 129 (.pair (.int .i64) (.pair (.sl 170 (.pair (.int .i64) (.pair (.int .i64) (.pair (.int .i64) (.pair (.int .i64) (.pair (.sl 3 (.int .i64)) .unit)))))) (.pair (.sl 5 (.int .u8)) .unit)))) (.pair (.sl 44 (.pair .str (.pair (.sl 5 (.int .u8)) .unit))) .unit))))))))))))
  | 62 => some (.pair (.sl 112 (.pair (.sl 3 (.int .i64)) (.pair (.sl 3 (.int .i64)) .unit))) (.pair (.sl 117 (.pair .str (.pair .str (.pair (.int .i64) (.pair (.int .i64) (.pair (.pair (.int .i64) (.pair .bool (.pair (.int .i64) .unit))) (.pair .bool .unit))))))) (.pair (.sl 120 (.pair (.int .i64) (.pair (.sl 3 (.int .i64)) (.pair (.sl 170 (.pair (.int .i64) (.pair (.int .i64) (.pair (.int .i64) (.pair (.int .i64) (.pair (.sl 3 (.int .i64)) .unit)))))) .unit)))) (.pair (.sl 115 (.pair (.int .i64) (.pair .bool (.pair (.int .i64) .unit)))) (.pair (.sl 115 (.pair (.int .i64) (.pair .bool (.pair (.int .i64) .unit)))) (.pair (.sl 123 (.pair (.int .i64) (.pair .bool (.pair (.sl 170 (.pair (.int .i64) (.pair (.int .i64) (.pair (.int .i64) (.pair (.int .i64) (.pair (.sl 3 (.int .i64)) .unit)))))) .unit)))) (.pair (.sl 125 (.pair .str (.pair (.int .i64) (.pair (.int .i64) .unit)))) (.pair (.sl 3 (.int .i64)) (.pair (.sl 127 (.pair (.int .i64) (.pair (.sl 170 (.pair (.int .i64) (.pair (.int .i64) (.pair (.int .i64) (.pair (.int .i64) (.pair (.sl 3 (.int .i64)) .unit)))))) (.pair (.sl 3 (.int .i64)) .unit)))) (.pair (.sl 3 (.int .i64)) (.pair (.sl 129 (.pair (.int .i64) (.pair (.sl 170 (.pair (.int .i64) (.pair (.int .i64) (.pair (.int .i64) (.pair (.int .i64) (.pair (.sl 3 (.int .i64)) .unit)))))) (.pair (.sl 5 (.int .u8)) .unit)))) (.pair (.sl 44 (.pair .str (.pair (.sl 5 (.int .u8)) .unit))) .unit))))))))))))
  | 75 => some (.int .u64)
  | 80 => some (.pair (.int .u64) (.pair (.int .u64) .unit))
  | 81 => some (.pair (.int .u64) (.pair (.int .u64) .unit))
  | 82 => some (.pair (.int .i64) (.pair (.int .u64) .unit))
  | 83 => some (.pair (.int .i64) (.pair (.int .u64) .unit))
  | 84 => some (.pair (.pair (.int .u64) (.pair (.int .u64) .unit)) (.pair (.pair (.int .i64) (.pair (.int .u64) .unit)) .unit))
  | 85 => some (.pair (.pair (.int .u64) (.pair (.int .u64) .unit)) (.pair (.pair (.int .i64) (.pair (.int .u64) .unit)) .unit))
  | 86 => some (.sl 85 (.pair (.pair (.int .u64) (.pair (.int .u64) .unit)) (.pair (.pair (.int .i64) (.pair (.int .u64) .unit)) .unit)))
  | 87 => some (.sl 86 (.sl 85 (.pair (.pair (.int .u64) (.pair (.int .u64) .unit)) (.pair (.pair (.int .i64) (.pair (.int .u64) .unit)) .unit))))
  | 88 => some (.pair (.sl 86 (.sl 85 (.pair (.pair (.int .u64) (.pair (.int .u64) .unit)) (.pair (.pair (.int .i64) (.pair (.int .u64) .unit)) .unit)))) .unit)
  | 89 => some (.pair (.sl 86 (.sl 85 (.pair (.pair (.int .u64) (.pair (.int .u64) .unit)) (.pair (.pair (.int .i64) (.pair (.int .u64) .unit)) .unit)))) .unit)
  | 90 => some (.sl 75 (.int .u64))
  | 94 => some (.ptr 96 (.pair (.sl 5 (.int .u8)) (.pair (.int .i64) .unit)))
  | 95 => some (.pair (.sl 5 (.int .u8)) (.pair (.int .i64) .unit))
  | 96 => some (.pair (.sl 5 (.int .u8)) (.pair (.int .i64) .unit))
  | 100 => some (.pair (.int .i64) (.pair (.sl 5 (.int .u8)) .unit))
  | 101 => some (.pair (.int .i64) (.pair (.sl 5 (.int .u8)) .unit))
  | 102 => some (.sl 101 (.pair (.int .i64) (.pair (.sl 5 (.int .u8)) .unit)))
  | 109 => some (.arr 5 (.int .i64))
  | 111 => some (.pair (.sl 3 (.int .i64)) (.pair (.sl 3 (.int .i64)) .unit))
  | 112 => some (.pair (.sl 3 (.int .i64)) (.pair (.sl 3 (.int .i64)) .unit))
  | 114 => some (.pair (.int .i64) (.pair .bool (.pair (.int .i64) .unit)))
  | 115 => some (.pair (.int .i64) (.pair .bool (.pair (.int .i64) .unit)))
  | 116 => some (.pair .str (.pair .str (.pair (.int .i64) (.pair (.int .i64) (.pair (.pair (.int .i64) (.pair .bool (.pair (.int .i64) .unit))) (.pair .bool .unit))))))
  | 117 => some (.pair .str (.pair .str (.pair (.int .i64) (.pair (.int .i64) (.pair (.pair (.int .i64) (.pair .bool (.pair (.int .i64) .unit))) (.pair .bool .unit))))))
  | 118 => some (.sl 170 (.pair (.int .i64) (.pair (.int .i64) (.pair (.int .i64) (.pair (.int .i64) (.pair (.sl 3 (.int .i64)) .unit))))))
  | 119 => some (.pair (.int .i64) (.pair (.sl 3 (.int .i64)) (.pair (.sl 170 (.pair (.int .i64) (.pair (.int .i64) (.pair (.int .i64) (.pair (.int .i64) (.pair (.sl 3 (.int .i64)) .unit)))))) .unit)))
  | 120 => some (.pair (.int .i64) (.pair (.sl 3 (.int .i64)) (.pair (.sl 170 (.pair (.int .i64) (.pair (.int .i64) (.pair (.int .i64) (.pair (.int .i64) (.pair (.sl 3 (.int .i64)) .unit)))))) .unit)))
  | 122 => some (.pair (.int .i64) (.pair .bool (.pair (.sl 170 (.pair (.int .i64) (.pair (.int .i64) (.pair (.int .i64) (.pair (.int .i64) (.pair (.sl 3 (.int .i64)) .unit)))))) .unit)))
  | 123 => some (.pair (.int .i64) (.pair .bool (.pair (.sl 170 (.pair (.int .i64) (.pair (.int .i64) (.pair (.int .i64) (.pair (.int .i64) (.pair (.sl 3 (.int .i64)) .unit)))))) .unit)))
  | 124 => some (.pair .str (.pair (.int .i64) (.pair (.int .i64) .unit)))
  | 125 => some (.pair .str (.pair (.int .i64) (.pair (.int .i64) .unit)))
  | 126 => some (.pair (.int .i64) (.pair (.sl 170 (.pair (.int .i64) (.pair (.int .i64) (.pair (.int .i64) (.pair (.int .i64) (.pair (.sl 3 (.int .i64)) .unit)))))) (.pair (.sl 3 (.int .i64)) .unit)))
  | 127 => some (.pair (.int .i64) (.pair (.sl 170 (.pair (.int .i64) (.pair (.int .i64) (.pair (.int .i64) (.pair (.int .i64) (.pair (.sl 3 (.int .i64)) .unit)))))) (.pair (.sl 3 (.int .i64)) .unit)))
  | 128 => some (.pair (.int .i64) (.pair (.sl 170 (.pair (.int .i64) (.pair (.int .i64) (.pair (.int .i64) (.pair (.int .i64) (.pair (.sl 3 (.int .i64)) .unit)))))) (.pair (.sl 5 (.int .u8)) .unit)))
  | 129 => some (.pair (.int .i64) (.pair (.sl 170 (.pair (.int .i64) (.pair (.int .i64) (.pair (.int .i64) (.pair (.int .i64) (.pair (.sl 3 (.int .i64)) .unit)))))) (.pair (.sl 5 (.int .u8)) .unit)))
  | 151 => some (.ptr 153 (.pair (.sl 5 (.int .u8)) (.pair (.int .i64) (.pair (.int .i64) .unit))))
  | 152 => some (.pair (.sl 5 (.int .u8)) (.pair (.int .i64) (.pair (.int .i64) .unit)))
  | 153 => some (.pair (.sl 5 (.int .u8)) (.pair (.int .i64) (.pair (.int .i64) .unit)))
  | 155 => some (.sl 22 (.sl 5 (.int .u8)))
  | 157 => some (.int .u64)
  | 164 => some (.pair (.int .i64) .unit)
  | 165 => some (.pair (.int .i64) .unit)
  | 169 => some (.pair (.int .i64) (.pair (.int .i64) (.pair (.int .i64) (.pair (.int .i64) (.pair (.sl 3 (.int .i64)) .unit)))))
  | 170 => some (.pair (.int .i64) (.pair (.int .i64) (.pair (.int .i64) (.pair (.int .i64) (.pair (.sl 3 (.int .i64)) .unit)))))
  | 174 => some (.ptr 165 (.pair (.int .i64) .unit))
  | 175 => some (.sl 4 .bool)
  | 186 => some (.int .u32)
  | 187 => some (.int .u8)
  | 188 => some (.int .u8)
  | 190 => some (.ptr 5 (.int .u8))
  | 191 => some (.int .i32)
  | 192 => some (.int .i32)
  | _ => none
noncomputable def envOf (g : FuncId → Option CSpec) (n : Nat) (fz : Nat → Bool) : Env := ⟨envTy, g, n, fz⟩
theorem envTyOk (g : FuncId → Option CSpec) (n : Nat) (fz : Nat → Bool) : EnvTy Try.prog (envOf g n fz) := by
  intro T t h
  unfold envOf envTy at h
  simp only at h
  split at h <;> first | (cases h; done) | (simp only [Option.some.injEq] at h; subst h; kernel_rfl)
theorem mixed : Try.prog.follows .mixedOrders = true := by kernel_rfl
noncomputable def body (o : Option Code) : Code := match o with | some c => c | none => .skip
noncomputable def lp0 : Loops := fun _ _ _ _ => none
noncomputable def loopAt (id : Nat) : Code → Option Code
  | .loop c => match firstId c with
    | some i => match Nat.beq i id with
      | true => some c
      | false => loopAt id c
    | none => loopAt id c
  | .seq a b => match loopAt id a with
    | some c => some c
    | none => loopAt id b
  | .cond _ a b => match loopAt id a with
    | some c => some c
    | none => loopAt id b
  | .block _ c => loopAt id c
  | .scope c => loopAt id c
  | _ => none

-- f83 trammel/leb.most
noncomputable def fz_leb_most : Nat → Bool
  | _ => false
noncomputable def gam_leb_most : FuncId → Option CSpec
  | _ => none
theorem gamOk_leb_most : EnvFn Try.prog (envOf gam_leb_most Try.f83.ntmps fz_leb_most) := by
  intro f c h
  unfold envOf gam_leb_most at h
  simp only at h
  cases h
noncomputable def p_leb_most {R : Type} (a0 : Int) (K : Int → Option R) : Option R :=
  let v1 := IntKind.i64.wrap (a0 + (6 : Int))
  cond ((7 : Int) != 0)
  (let v2 := IntKind.i64.wrap (Int.tdiv v1 (7 : Int))
  K v2) none
noncomputable def cs_leb_most : CSpec := { ins := [(.val (.int .i64) .s)], outs := [((.int .i64), .s)], fn := fun (d : Int × Unit) K => p_leb_most d.1 fun r0 => K ((r0, ()) : Int × Unit) ((()) : Unit) }
theorem h_leb_most : Holds Try.prog 83 cs_leb_most := by
  refine holds_of (env := envOf gam_leb_most Try.f83.ntmps fz_leb_most) (fn := Try.f83) (code := body Try.f83.body) (rs := [2]) (lp := lp0) mixed (envTyOk _ _ _) gamOk_leb_most Try.func83 (by kernel_rfl) (by kernel_rfl) (by kernel_rfl) (by kernel_rfl) (by kernel_rfl) (loopsOk_none (by kernel_rfl)) ?_
  intro d R K res h
  have : evC (envOf gam_leb_most Try.f83.ntmps fz_leb_most) lp0 (body Try.f83.body) (St.start cs_leb_most.ins d) (retK (envOf gam_leb_most Try.f83.ntmps fz_leb_most) cs_leb_most.ins cs_leb_most.outs [2] K) = cs_leb_most.fn d K := by kernel_rfl
  rw [this]; exact h
-- f74 trammel/leb.raw
noncomputable def fz_leb_raw : Nat → Bool
  | _ => false
noncomputable def gam_leb_raw : FuncId → Option CSpec
  | 83 => some cs_leb_most
  | _ => none
theorem gamOk_leb_raw : EnvFn Try.prog (envOf gam_leb_raw Try.f74.ntmps fz_leb_raw) := by
  intro f c h
  unfold envOf gam_leb_raw at h
  simp only at h
  split at h <;> first | (cases h; done) | (cases h; exact h_leb_most)
structure X_leb_raw_5 where
  f1 : Int
  f8 : Int
  f17 : List (Int)
  f18 : Int
  f19 : Int

noncomputable def B_leb_raw_5 {R : Type} (k_ret : Int → Int → Int → Int → Option R) (k_exit_0 : Option R) (rec : X_leb_raw_5 → Option R) (x : X_leb_raw_5) : Option R :=
  let v1 := decide (x.f19 < x.f18)
  cond v1
  (cond (inB x.f19 (List.length x.f17))
  (let v2 := List.getD x.f17 x.f19.toNat (0 : Int)
  let v3 := IntKind.u8.wrap ((BitVec.ofInt IntKind.u8.bits v2 &&& BitVec.ofInt IntKind.u8.bits (127 : Int)).toNat)
  let v4 := IntKind.u64.wrap v3
  let v5 := IntKind.i64.wrap ((7 : Int) * x.f19)
  let v6 := IntKind.u64.wrap v5
  cond (decide (0 ≤ v6))
  (let v7 := shlI .u64 v4 v6
  let v8 := IntKind.u64.wrap ((BitVec.ofInt IntKind.u64.bits x.f8 ||| BitVec.ofInt IntKind.u64.bits v7).toNat)
  let v9 := decide (v2 < (128 : Int))
  cond v9
  (let v10 := IntKind.i64.wrap (x.f19 + (1 : Int))
  k_ret v8 v2 v10 (0 : Int))
  (let v11 := IntKind.i64.wrap (x.f19 + (1 : Int))
  p_leb_most x.f1 fun r12 =>
  let v13 := v11 == r12
  cond v13
  (k_ret (0 : Int) (0 : Int) (0 : Int) (2 : Int))
  (let v14 := IntKind.i64.wrap (x.f19 + (1 : Int))
  rec ⟨x.f1, v8, x.f17, x.f18, v14⟩))) none) none)
  (k_exit_0)
noncomputable def S_leb_raw_5 (x : X_leb_raw_5) : St := St.ofList [(1, (.v (.int .i64) .s x.f1)), (8, (.v (.int .u64) .s x.f8)), (17, (.v (.sl 5 (.int .u8)) .s x.f17)), (18, (.v (.int .i64) .s x.f18)), (19, (.v (.int .i64) .s x.f19))]
def out_leb_raw_5 : Ex → List Nat | .ret => [4, 5, 6, 7] | (.exit 0) => [] | _ => []
noncomputable def fuel_leb_raw_5 (x : X_leb_raw_5) : Nat := fuel64
noncomputable def lp_leb_raw : Loops := fun i R st K => match i with
  | 5 => match st 1, st 8, st 17, st 18, st 19 with
    | (.v (.int .i64) .s y1), (.v (.int .u64) .s y8), (.v (.sl 5 (.int .u8)) .s y17), (.v (.int .i64) .s y18), (.v (.int .i64) .s y19) => loopN (B_leb_raw_5 (fun e4 e5 e6 e7 => K .ret (St.ofList [(4, (.v (.int .u64) .s e4)), (5, (.v (.int .u8) .s e5)), (6, (.v (.int .i64) .s e6)), (7, (.v (.int .i64) .s e7))])) (K (.exit 0) (St.ofList []))) (fuel_leb_raw_5 ⟨y1, y8, y17, y18, y19⟩) ⟨y1, y8, y17, y18, y19⟩
    | _, _, _, _, _ => none
  | _ => none
noncomputable def c_leb_raw_5 : Code := match loopAt 5 (body Try.f74.body) with | some c => c | none => .skip
theorem step_leb_raw_5 (R : Type) (K : Ex → St → Option R) (rec : St → Option R) (x : X_leb_raw_5) : evC (envOf gam_leb_raw Try.f74.ntmps fz_leb_raw) lp_leb_raw c_leb_raw_5 (S_leb_raw_5 x) (fun e st => match e with | .normal => rec (st.only [1, 8, 17, 18, 19]) | e => K e (st.only (out_leb_raw_5 e))) = B_leb_raw_5 (fun e4 e5 e6 e7 => K .ret (St.ofList [(4, (.v (.int .u64) .s e4)), (5, (.v (.int .u8) .s e5)), (6, (.v (.int .i64) .s e6)), (7, (.v (.int .i64) .s e7))])) (K (.exit 0) (St.ofList [])) (fun x => rec (S_leb_raw_5 x)) x := by kernel_rfl
theorem ok_leb_raw_5 : LoopOk (envOf gam_leb_raw Try.f74.ntmps fz_leb_raw) lp_leb_raw c_leb_raw_5 := by
  refine loopOk_of (hd := [1, 8, 17, 18, 19]) (out := out_leb_raw_5) (S := S_leb_raw_5) (fun _ K => B_leb_raw_5 (fun e4 e5 e6 e7 => K .ret (St.ofList [(4, (.v (.int .u64) .s e4)), (5, (.v (.int .u8) .s e5)), (6, (.v (.int .i64) .s e6)), (7, (.v (.int .i64) .s e7))])) (K (.exit 0) (St.ofList []))) fuel_leb_raw_5 5 step_leb_raw_5 (fun x => by kernel_rfl) (by kernel_rfl) ?_
  intro R st K r h
  unfold lp_leb_raw at h
  simp only at h
  split at h
  · rename_i y1 y8 y17 y18 y19 hy1 hy8 hy17 hy18 hy19
    refine ⟨⟨y1, y8, y17, y18, y19⟩, ?_, h⟩
    show St.ofList [(1, st 1), (8, st 8), (17, st 17), (18, st 18), (19, st 19)] = _
    rw [hy1, hy8, hy17, hy18, hy19]
    rfl
  · cases h
noncomputable def p_leb_raw {R : Type} (a0 : List (Int)) (a1 : Int) (K : Int → Int → Int → Int → Option R) : Option R :=
  let v1 := decide (a1 < (1 : Int))
  cond v1
  (K (0 : Int) (0 : Int) (0 : Int) (5 : Int))
  (let v2 := decide (a1 > (64 : Int))
  cond v2
  (K (0 : Int) (0 : Int) (0 : Int) (5 : Int))
  (let v3 := ((List.length a0 : Nat) : Int)
  loopN (B_leb_raw_5 (fun w4 w5 w6 w7 => K w4 w5 w6 w7) (K (0 : Int) (0 : Int) (0 : Int) (1 : Int))) (fuel_leb_raw_5 ⟨a1, (0 : Int), a0, v3, (0 : Int)⟩) ⟨a1, (0 : Int), a0, v3, (0 : Int)⟩))
noncomputable def cs_leb_raw : CSpec := { ins := [(.val (.sl 5 (.int .u8)) .s), (.val (.int .i64) .s)], outs := [((.int .u64), .s), ((.int .u8), .s), ((.int .i64), .s), ((.int .i64), .s)], fn := fun (d : (List (Int)) × Int × Unit) K => p_leb_raw d.1 d.2.1 fun r0 r1 r2 r3 => K ((r0, r1, r2, r3, ()) : Int × Int × Int × Int × Unit) ((()) : Unit) }
theorem h_leb_raw : Holds Try.prog 74 cs_leb_raw := by
  refine holds_of (env := envOf gam_leb_raw Try.f74.ntmps fz_leb_raw) (fn := Try.f74) (code := body Try.f74.body) (rs := [4, 5, 6, 7]) (lp := lp_leb_raw) mixed (envTyOk _ _ _) gamOk_leb_raw Try.func74 (by kernel_rfl) (by kernel_rfl) (by kernel_rfl) (by kernel_rfl) (by kernel_rfl) (loopsOk_of fun c hc => ?_) ?_
  · rw [show loopsL (body Try.f74.body) = [c_leb_raw_5] by kernel_rfl] at hc
    simp only [List.mem_cons, List.not_mem_nil, or_false] at hc
    rcases hc with rfl
    · exact ok_leb_raw_5
  intro d R K res h
  have : evC (envOf gam_leb_raw Try.f74.ntmps fz_leb_raw) lp_leb_raw (body Try.f74.body) (St.start cs_leb_raw.ins d) (retK (envOf gam_leb_raw Try.f74.ntmps fz_leb_raw) cs_leb_raw.ins cs_leb_raw.outs [4, 5, 6, 7] K) = cs_leb_raw.fn d K := by kernel_rfl
  rw [this]; exact h
-- f34 trammel/leb.U
noncomputable def fz_leb_U : Nat → Bool
  | _ => false
noncomputable def gam_leb_U : FuncId → Option CSpec
  | 74 => some cs_leb_raw
  | _ => none
theorem gamOk_leb_U : EnvFn Try.prog (envOf gam_leb_U Try.f34.ntmps fz_leb_U) := by
  intro f c h
  unfold envOf gam_leb_U at h
  simp only at h
  split at h <;> first | (cases h; done) | (cases h; exact h_leb_raw)
noncomputable def p_leb_U {R : Type} (a0 : List (Int)) (a1 : Int) (K : Int → Int → Int → Option R) : Option R :=
  p_leb_raw a0 a1 fun r1 r2 r3 r4 =>
  let v5 := r4 != (0 : Int)
  cond v5
  (K (0 : Int) (0 : Int) r4)
  (let v6 := IntKind.i64.wrap (r3 - (1 : Int))
  let v7 := IntKind.i64.wrap ((7 : Int) * v6)
  let v8 := IntKind.i64.wrap (a1 - v7)
  let v9 := decide (v8 < (7 : Int))
  cond v9
  (let v10 := IntKind.u64.wrap v8
  cond (decide (0 ≤ v10))
  (let v11 := shrI .u8 r2 v10
  let v12 := v11 != (0 : Int)
  cond v12
  (K (0 : Int) (0 : Int) (2 : Int))
  (K r1 r3 (0 : Int))) none)
  (K r1 r3 (0 : Int)))
noncomputable def cs_leb_U : CSpec := { ins := [(.val (.sl 5 (.int .u8)) .s), (.val (.int .i64) .s)], outs := [((.int .u64), .s), ((.int .i64), .s), ((.int .i64), .s)], fn := fun (d : (List (Int)) × Int × Unit) K => p_leb_U d.1 d.2.1 fun r0 r1 r2 => K ((r0, r1, r2, ()) : Int × Int × Int × Unit) ((()) : Unit) }
theorem h_leb_U : Holds Try.prog 34 cs_leb_U := by
  refine holds_of (env := envOf gam_leb_U Try.f34.ntmps fz_leb_U) (fn := Try.f34) (code := body Try.f34.body) (rs := [4, 5, 6]) (lp := lp0) mixed (envTyOk _ _ _) gamOk_leb_U Try.func34 (by kernel_rfl) (by kernel_rfl) (by kernel_rfl) (by kernel_rfl) (by kernel_rfl) (loopsOk_none (by kernel_rfl)) ?_
  intro d R K res h
  have : evC (envOf gam_leb_U Try.f34.ntmps fz_leb_U) lp0 (body Try.f34.body) (St.start cs_leb_U.ins d) (retK (envOf gam_leb_U Try.f34.ntmps fz_leb_U) cs_leb_U.ins cs_leb_U.outs [4, 5, 6] K) = cs_leb_U.fn d K := by kernel_rfl
  rw [this]; exact h
-- f35 trammel/utf.tail
noncomputable def fz_utf_tail : Nat → Bool
  | _ => false
noncomputable def gam_utf_tail : FuncId → Option CSpec
  | _ => none
theorem gamOk_utf_tail : EnvFn Try.prog (envOf gam_utf_tail Try.f35.ntmps fz_utf_tail) := by
  intro f c h
  unfold envOf gam_utf_tail at h
  simp only at h
  cases h
noncomputable def p_utf_tail {R : Type} (a0 : Int) (K : Int → Int → Int → Bool → Option R) : Option R :=
  let v1 := decide (a0 < (128 : Int))
  cond v1
  (K (0 : Int) (0 : Int) (0 : Int) true)
  (let v2 := decide (a0 ≥ (194 : Int))
  cond v2
  (let v3 := decide (a0 ≤ (223 : Int))
  cond v3
  (K (1 : Int) (128 : Int) (191 : Int) true)
  (let v4 := a0 == (224 : Int)
  cond v4
  (K (2 : Int) (160 : Int) (191 : Int) true)
  (let v5 := a0 == (237 : Int)
  cond v5
  (K (2 : Int) (128 : Int) (159 : Int) true)
  (let v6 := decide (a0 ≥ (225 : Int))
  cond v6
  (let v7 := decide (a0 ≤ (239 : Int))
  cond v7
  (K (2 : Int) (128 : Int) (191 : Int) true)
  (let v8 := a0 == (240 : Int)
  cond v8
  (K (3 : Int) (144 : Int) (191 : Int) true)
  (let v9 := a0 == (244 : Int)
  cond v9
  (K (3 : Int) (128 : Int) (143 : Int) true)
  (let v10 := decide (a0 ≥ (241 : Int))
  cond v10
  (let v11 := decide (a0 ≤ (243 : Int))
  cond v11
  (K (3 : Int) (128 : Int) (191 : Int) true)
  (K (0 : Int) (0 : Int) (0 : Int) false))
  (K (0 : Int) (0 : Int) (0 : Int) false)))))
  (let v12 := a0 == (240 : Int)
  cond v12
  (K (3 : Int) (144 : Int) (191 : Int) true)
  (let v13 := a0 == (244 : Int)
  cond v13
  (K (3 : Int) (128 : Int) (143 : Int) true)
  (let v14 := decide (a0 ≥ (241 : Int))
  cond v14
  (let v15 := decide (a0 ≤ (243 : Int))
  cond v15
  (K (3 : Int) (128 : Int) (191 : Int) true)
  (K (0 : Int) (0 : Int) (0 : Int) false))
  (K (0 : Int) (0 : Int) (0 : Int) false))))))))
  (let v16 := a0 == (224 : Int)
  cond v16
  (K (2 : Int) (160 : Int) (191 : Int) true)
  (let v17 := a0 == (237 : Int)
  cond v17
  (K (2 : Int) (128 : Int) (159 : Int) true)
  (let v18 := decide (a0 ≥ (225 : Int))
  cond v18
  (let v19 := decide (a0 ≤ (239 : Int))
  cond v19
  (K (2 : Int) (128 : Int) (191 : Int) true)
  (let v20 := a0 == (240 : Int)
  cond v20
  (K (3 : Int) (144 : Int) (191 : Int) true)
  (let v21 := a0 == (244 : Int)
  cond v21
  (K (3 : Int) (128 : Int) (143 : Int) true)
  (let v22 := decide (a0 ≥ (241 : Int))
  cond v22
  (let v23 := decide (a0 ≤ (243 : Int))
  cond v23
  (K (3 : Int) (128 : Int) (191 : Int) true)
  (K (0 : Int) (0 : Int) (0 : Int) false))
  (K (0 : Int) (0 : Int) (0 : Int) false)))))
  (let v24 := a0 == (240 : Int)
  cond v24
  (K (3 : Int) (144 : Int) (191 : Int) true)
  (let v25 := a0 == (244 : Int)
  cond v25
  (K (3 : Int) (128 : Int) (143 : Int) true)
  (let v26 := decide (a0 ≥ (241 : Int))
  cond v26
  (let v27 := decide (a0 ≤ (243 : Int))
  cond v27
  (K (3 : Int) (128 : Int) (191 : Int) true)
  (K (0 : Int) (0 : Int) (0 : Int) false))
  (K (0 : Int) (0 : Int) (0 : Int) false))))))))
noncomputable def cs_utf_tail : CSpec := { ins := [(.val (.int .u8) .s)], outs := [((.int .i64), .s), ((.int .u8), .s), ((.int .u8), .s), (.bool, .s)], fn := fun (d : Int × Unit) K => p_utf_tail d.1 fun r0 r1 r2 r3 => K ((r0, r1, r2, r3, ()) : Int × Int × Int × Bool × Unit) ((()) : Unit) }
theorem h_utf_tail : Holds Try.prog 35 cs_utf_tail := by
  refine holds_of (env := envOf gam_utf_tail Try.f35.ntmps fz_utf_tail) (fn := Try.f35) (code := body Try.f35.body) (rs := [2, 3, 4, 5]) (lp := lp0) mixed (envTyOk _ _ _) gamOk_utf_tail Try.func35 (by kernel_rfl) (by kernel_rfl) (by kernel_rfl) (by kernel_rfl) (by kernel_rfl) (loopsOk_none (by kernel_rfl)) ?_
  intro d R K res h
  have : evC (envOf gam_utf_tail Try.f35.ntmps fz_utf_tail) lp0 (body Try.f35.body) (St.start cs_utf_tail.ins d) (retK (envOf gam_utf_tail Try.f35.ntmps fz_utf_tail) cs_utf_tail.ins cs_utf_tail.outs [2, 3, 4, 5] K) = cs_utf_tail.fn d K := by kernel_rfl
  rw [this]; exact h
-- f13 trammel/utf.Valid
noncomputable def fz_utf_Valid : Nat → Bool
  | _ => false
noncomputable def gam_utf_Valid : FuncId → Option CSpec
  | 35 => some cs_utf_tail
  | _ => none
theorem gamOk_utf_Valid : EnvFn Try.prog (envOf gam_utf_Valid Try.f13.ntmps fz_utf_Valid) := by
  intro f c h
  unfold envOf gam_utf_Valid at h
  simp only at h
  split at h <;> first | (cases h; done) | (cases h; exact h_utf_tail)
structure X_utf_Valid_7 where
  f0 : List UInt8
  f3 : Int
  f4 : Int
  f5 : Int
  f6 : Int
  f8 : Int
  f26 : Int
  f27 : List UInt8
  f28 : Int
  f29 : Int
  f30 : Int
  f31 : Int
  f32 : Bool

noncomputable def B_utf_Valid_7 {R : Type} (k_ret : Bool → Option R) (k_exit_2 : (List UInt8) → Int → Int → Int → (List UInt8) → Int → Int → Int → Int → Bool → Option R) (rec : X_utf_Valid_7 → Option R) (x : X_utf_Valid_7) : Option R :=
  let v1 := decide (x.f8 ≤ x.f4)
  cond v1
  (let v2 := IntKind.i64.wrap (x.f3 + x.f8)
  cond (inB v2 (List.length x.f0))
  (let v3 := bt x.f0 v2
  let v4 := decide (v3 < x.f5)
  cond v4
  (k_ret false)
  (let v5 := decide (v3 > x.f6)
  cond v5
  (k_ret false)
  (let v6 := IntKind.i64.wrap (x.f8 + (1 : Int))
  rec ⟨x.f0, x.f3, x.f4, (128 : Int), (191 : Int), v6, x.f26, x.f27, x.f28, x.f29, x.f30, x.f31, x.f32⟩))) none)
  (k_exit_2 x.f0 x.f3 x.f4 x.f26 x.f27 x.f28 x.f29 x.f30 x.f31 x.f32)
noncomputable def S_utf_Valid_7 (x : X_utf_Valid_7) : St := St.ofList [(0, (.v .str .s x.f0)), (3, (.v (.int .i64) .s x.f3)), (4, (.v (.int .i64) .s x.f4)), (5, (.v (.int .u8) .s x.f5)), (6, (.v (.int .u8) .s x.f6)), (8, (.v (.int .i64) .s x.f8)), (26, (.v (.int .i64) .s x.f26)), (27, (.v .str .s x.f27)), (28, (.v (.int .i64) .s x.f28)), (29, (.v (.int .i64) .s x.f29)), (30, (.v (.int .i64) .s x.f30)), (31, (.v (.int .i64) .s x.f31)), (32, (.v .bool .s x.f32))]
def out_utf_Valid_7 : Ex → List Nat | .ret => [2] | (.exit 2) => [0, 3, 4, 26, 27, 28, 29, 30, 31, 32] | _ => []
noncomputable def fuel_utf_Valid_7 (x : X_utf_Valid_7) : Nat := fuel64
structure X_utf_Valid_2 where
  f0 : List UInt8
  f3 : Int

noncomputable def B_utf_Valid_2 {R : Type} (k_ret : Bool → Option R) (k_exit_0 : Option R) (rec : X_utf_Valid_2 → Option R) (x : X_utf_Valid_2) : Option R :=
  let v1 := ((List.length x.f0 : Nat) : Int)
  let v2 := decide (x.f3 < v1)
  cond v2
  (cond (inB x.f3 (List.length x.f0))
  (let v3 := bt x.f0 x.f3
  p_utf_tail v3 fun r4 r5 r6 r7 =>
  let v8 := !r7
  cond v8
  (k_ret false)
  (let v9 := ((List.length x.f0 : Nat) : Int)
  let v10 := IntKind.i64.wrap (v9 - x.f3)
  let v11 := IntKind.i64.wrap (v10 - (1 : Int))
  let v12 := decide (r4 > v11)
  cond v12
  (k_ret false)
  (loopN (B_utf_Valid_7 (fun w13 => k_ret w13) (fun w14 w15 w16 w17 w18 w19 w20 w21 w22 w23 => let v24 := IntKind.i64.wrap ((1 : Int) + w16)
  let v25 := IntKind.i64.wrap (w15 + v24)
  rec ⟨w14, v25⟩)) (fuel_utf_Valid_7 ⟨x.f0, x.f3, r4, r5, r6, (1 : Int), r4, x.f0, v9, x.f3, v10, v11, v12⟩) ⟨x.f0, x.f3, r4, r5, r6, (1 : Int), r4, x.f0, v9, x.f3, v10, v11, v12⟩))) none)
  (k_exit_0)
noncomputable def S_utf_Valid_2 (x : X_utf_Valid_2) : St := St.ofList [(0, (.v .str .s x.f0)), (3, (.v (.int .i64) .s x.f3))]
def out_utf_Valid_2 : Ex → List Nat | .ret => [2] | (.exit 0) => [] | _ => []
noncomputable def fuel_utf_Valid_2 (x : X_utf_Valid_2) : Nat := fuel64
noncomputable def lp_utf_Valid : Loops := fun i R st K => match i with
  | 7 => match st 0, st 3, st 4, st 5, st 6, st 8, st 26, st 27, st 28, st 29, st 30, st 31, st 32 with
    | (.v .str .s y0), (.v (.int .i64) .s y3), (.v (.int .i64) .s y4), (.v (.int .u8) .s y5), (.v (.int .u8) .s y6), (.v (.int .i64) .s y8), (.v (.int .i64) .s y26), (.v .str .s y27), (.v (.int .i64) .s y28), (.v (.int .i64) .s y29), (.v (.int .i64) .s y30), (.v (.int .i64) .s y31), (.v .bool .s y32) => loopN (B_utf_Valid_7 (fun e2 => K .ret (St.ofList [(2, (.v .bool .s e2))])) (fun e0 e3 e4 e26 e27 e28 e29 e30 e31 e32 => K (.exit 2) (St.ofList [(0, (.v .str .s e0)), (3, (.v (.int .i64) .s e3)), (4, (.v (.int .i64) .s e4)), (26, (.v (.int .i64) .s e26)), (27, (.v .str .s e27)), (28, (.v (.int .i64) .s e28)), (29, (.v (.int .i64) .s e29)), (30, (.v (.int .i64) .s e30)), (31, (.v (.int .i64) .s e31)), (32, (.v .bool .s e32))]))) (fuel_utf_Valid_7 ⟨y0, y3, y4, y5, y6, y8, y26, y27, y28, y29, y30, y31, y32⟩) ⟨y0, y3, y4, y5, y6, y8, y26, y27, y28, y29, y30, y31, y32⟩
    | _, _, _, _, _, _, _, _, _, _, _, _, _ => none
  | 2 => match st 0, st 3 with
    | (.v .str .s y0), (.v (.int .i64) .s y3) => loopN (B_utf_Valid_2 (fun e2 => K .ret (St.ofList [(2, (.v .bool .s e2))])) (K (.exit 0) (St.ofList []))) (fuel_utf_Valid_2 ⟨y0, y3⟩) ⟨y0, y3⟩
    | _, _ => none
  | _ => none
noncomputable def c_utf_Valid_7 : Code := match loopAt 7 (body Try.f13.body) with | some c => c | none => .skip
theorem step_utf_Valid_7 (R : Type) (K : Ex → St → Option R) (rec : St → Option R) (x : X_utf_Valid_7) : evC (envOf gam_utf_Valid Try.f13.ntmps fz_utf_Valid) lp_utf_Valid c_utf_Valid_7 (S_utf_Valid_7 x) (fun e st => match e with | .normal => rec (st.only [0, 3, 4, 5, 6, 8, 26, 27, 28, 29, 30, 31, 32]) | e => K e (st.only (out_utf_Valid_7 e))) = B_utf_Valid_7 (fun e2 => K .ret (St.ofList [(2, (.v .bool .s e2))])) (fun e0 e3 e4 e26 e27 e28 e29 e30 e31 e32 => K (.exit 2) (St.ofList [(0, (.v .str .s e0)), (3, (.v (.int .i64) .s e3)), (4, (.v (.int .i64) .s e4)), (26, (.v (.int .i64) .s e26)), (27, (.v .str .s e27)), (28, (.v (.int .i64) .s e28)), (29, (.v (.int .i64) .s e29)), (30, (.v (.int .i64) .s e30)), (31, (.v (.int .i64) .s e31)), (32, (.v .bool .s e32))])) (fun x => rec (S_utf_Valid_7 x)) x := by kernel_rfl
theorem ok_utf_Valid_7 : LoopOk (envOf gam_utf_Valid Try.f13.ntmps fz_utf_Valid) lp_utf_Valid c_utf_Valid_7 := by
  refine loopOk_of (hd := [0, 3, 4, 5, 6, 8, 26, 27, 28, 29, 30, 31, 32]) (out := out_utf_Valid_7) (S := S_utf_Valid_7) (fun _ K => B_utf_Valid_7 (fun e2 => K .ret (St.ofList [(2, (.v .bool .s e2))])) (fun e0 e3 e4 e26 e27 e28 e29 e30 e31 e32 => K (.exit 2) (St.ofList [(0, (.v .str .s e0)), (3, (.v (.int .i64) .s e3)), (4, (.v (.int .i64) .s e4)), (26, (.v (.int .i64) .s e26)), (27, (.v .str .s e27)), (28, (.v (.int .i64) .s e28)), (29, (.v (.int .i64) .s e29)), (30, (.v (.int .i64) .s e30)), (31, (.v (.int .i64) .s e31)), (32, (.v .bool .s e32))]))) fuel_utf_Valid_7 7 step_utf_Valid_7 (fun x => by kernel_rfl) (by kernel_rfl) ?_
  intro R st K r h
  unfold lp_utf_Valid at h
  simp only at h
  split at h
  · rename_i y0 y3 y4 y5 y6 y8 y26 y27 y28 y29 y30 y31 y32 hy0 hy3 hy4 hy5 hy6 hy8 hy26 hy27 hy28 hy29 hy30 hy31 hy32
    refine ⟨⟨y0, y3, y4, y5, y6, y8, y26, y27, y28, y29, y30, y31, y32⟩, ?_, h⟩
    show St.ofList [(0, st 0), (3, st 3), (4, st 4), (5, st 5), (6, st 6), (8, st 8), (26, st 26), (27, st 27), (28, st 28), (29, st 29), (30, st 30), (31, st 31), (32, st 32)] = _
    rw [hy0, hy3, hy4, hy5, hy6, hy8, hy26, hy27, hy28, hy29, hy30, hy31, hy32]
    rfl
  · cases h
noncomputable def c_utf_Valid_2 : Code := match loopAt 2 (body Try.f13.body) with | some c => c | none => .skip
theorem step_utf_Valid_2 (R : Type) (K : Ex → St → Option R) (rec : St → Option R) (x : X_utf_Valid_2) : evC (envOf gam_utf_Valid Try.f13.ntmps fz_utf_Valid) lp_utf_Valid c_utf_Valid_2 (S_utf_Valid_2 x) (fun e st => match e with | .normal => rec (st.only [0, 3]) | e => K e (st.only (out_utf_Valid_2 e))) = B_utf_Valid_2 (fun e2 => K .ret (St.ofList [(2, (.v .bool .s e2))])) (K (.exit 0) (St.ofList [])) (fun x => rec (S_utf_Valid_2 x)) x := by kernel_rfl
theorem ok_utf_Valid_2 : LoopOk (envOf gam_utf_Valid Try.f13.ntmps fz_utf_Valid) lp_utf_Valid c_utf_Valid_2 := by
  refine loopOk_of (hd := [0, 3]) (out := out_utf_Valid_2) (S := S_utf_Valid_2) (fun _ K => B_utf_Valid_2 (fun e2 => K .ret (St.ofList [(2, (.v .bool .s e2))])) (K (.exit 0) (St.ofList []))) fuel_utf_Valid_2 2 step_utf_Valid_2 (fun x => by kernel_rfl) (by kernel_rfl) ?_
  intro R st K r h
  unfold lp_utf_Valid at h
  simp only at h
  split at h
  · rename_i y0 y3 hy0 hy3
    refine ⟨⟨y0, y3⟩, ?_, h⟩
    show St.ofList [(0, st 0), (3, st 3)] = _
    rw [hy0, hy3]
    rfl
  · cases h
noncomputable def p_utf_Valid {R : Type} (a0 : List UInt8) (K : Bool → Option R) : Option R :=
  loopN (B_utf_Valid_2 (fun w1 => K w1) (K true)) (fuel_utf_Valid_2 ⟨a0, (0 : Int)⟩) ⟨a0, (0 : Int)⟩
noncomputable def cs_utf_Valid : CSpec := { ins := [(.val .str .s)], outs := [(.bool, .s)], fn := fun (d : (List UInt8) × Unit) K => p_utf_Valid d.1 fun r0 => K ((r0, ()) : Bool × Unit) ((()) : Unit) }
theorem h_utf_Valid : Holds Try.prog 13 cs_utf_Valid := by
  refine holds_of (env := envOf gam_utf_Valid Try.f13.ntmps fz_utf_Valid) (fn := Try.f13) (code := body Try.f13.body) (rs := [2]) (lp := lp_utf_Valid) mixed (envTyOk _ _ _) gamOk_utf_Valid Try.func13 (by kernel_rfl) (by kernel_rfl) (by kernel_rfl) (by kernel_rfl) (by kernel_rfl) (loopsOk_of fun c hc => ?_) ?_
  · rw [show loopsL (body Try.f13.body) = [c_utf_Valid_2, c_utf_Valid_7] by kernel_rfl] at hc
    simp only [List.mem_cons, List.not_mem_nil, or_false] at hc
    rcases hc with rfl | rfl
    · exact ok_utf_Valid_2
    · exact ok_utf_Valid_7
  intro d R K res h
  have : evC (envOf gam_utf_Valid Try.f13.ntmps fz_utf_Valid) lp_utf_Valid (body Try.f13.body) (St.start cs_utf_Valid.ins d) (retK (envOf gam_utf_Valid Try.f13.ntmps fz_utf_Valid) cs_utf_Valid.ins cs_utf_Valid.outs [2] K) = cs_utf_Valid.fn d K := by kernel_rfl
  rw [this]; exact h
-- f12 trammel/utf.Name
noncomputable def fz_utf_Name : Nat → Bool
  | _ => false
noncomputable def gam_utf_Name : FuncId → Option CSpec
  | 13 => some cs_utf_Valid
  | 34 => some cs_leb_U
  | _ => none
theorem gamOk_utf_Name : EnvFn Try.prog (envOf gam_utf_Name Try.f12.ntmps fz_utf_Name) := by
  intro f c h
  unfold envOf gam_utf_Name at h
  simp only at h
  split at h <;> first | (cases h; done) | (cases h; exact h_utf_Valid) | (cases h; exact h_leb_U)
noncomputable def p_utf_Name {R : Type} (a0 : List (Int)) (K : (List UInt8) → Int → Int → Option R) : Option R :=
  p_leb_U a0 (32 : Int) fun r1 r2 r3 =>
  let v4 := r3 != (0 : Int)
  cond v4
  (K ([] : List UInt8) (0 : Int) r3)
  (let v5 := ((List.length a0 : Nat) : Int)
  let v6 := IntKind.i64.wrap (v5 - r2)
  let v7 := IntKind.u64.wrap v6
  let v8 := decide (r1 > v7)
  cond v8
  (K ([] : List UInt8) (0 : Int) (1 : Int))
  (let v9 := IntKind.i64.wrap r1
  let v10 := IntKind.i64.wrap (r2 + v9)
  cond (inR r2 v10 (List.length a0))
  (let v11 := rng a0 r2 v10
  let v12 := u8s v11
  p_utf_Valid v12 fun r13 =>
  let v14 := !r13
  cond v14
  (K ([] : List UInt8) (0 : Int) (2 : Int))
  (let v15 := ((List.length v12 : Nat) : Int)
  let v16 := decide (v15 > (64 : Int))
  cond v16
  (K ([] : List UInt8) (0 : Int) (4 : Int))
  (let v17 := ((List.length v12 : Nat) : Int)
  let v18 := IntKind.i64.wrap (r2 + v17)
  K v12 v18 (0 : Int)))) none))
noncomputable def cs_utf_Name : CSpec := { ins := [(.val (.sl 5 (.int .u8)) .s)], outs := [(.str, .s), ((.int .i64), .s), ((.int .i64), .s)], fn := fun (d : (List (Int)) × Unit) K => p_utf_Name d.1 fun r0 r1 r2 => K ((r0, r1, r2, ()) : (List UInt8) × Int × Int × Unit) ((()) : Unit) }
theorem h_utf_Name : Holds Try.prog 12 cs_utf_Name := by
  refine holds_of (env := envOf gam_utf_Name Try.f12.ntmps fz_utf_Name) (fn := Try.f12) (code := body Try.f12.body) (rs := [2, 3, 4]) (lp := lp0) mixed (envTyOk _ _ _) gamOk_utf_Name Try.func12 (by kernel_rfl) (by kernel_rfl) (by kernel_rfl) (by kernel_rfl) (by kernel_rfl) (loopsOk_none (by kernel_rfl)) ?_
  intro d R K res h
  have : evC (envOf gam_utf_Name Try.f12.ntmps fz_utf_Name) lp0 (body Try.f12.body) (St.start cs_utf_Name.ins d) (retK (envOf gam_utf_Name Try.f12.ntmps fz_utf_Name) cs_utf_Name.ins cs_utf_Name.outs [2, 3, 4] K) = cs_utf_Name.fn d K := by kernel_rfl
  rw [this]; exact h
-- f10 trammel/trammellaw02.awake
noncomputable def fz_law02_awake : Nat → Bool
  | _ => false
noncomputable def gam_law02_awake : FuncId → Option CSpec
  | 12 => some cs_utf_Name
  | 13 => some cs_utf_Valid
  | _ => none
theorem gamOk_law02_awake : EnvFn Try.prog (envOf gam_law02_awake Try.f10.ntmps fz_law02_awake) := by
  intro f c h
  unfold envOf gam_law02_awake at h
  simp only at h
  split at h <;> first | (cases h; done) | (cases h; exact h_utf_Name) | (cases h; exact h_utf_Valid)
noncomputable def p_law02_awake {R : Type}  (K : Bool → Option R) : Option R :=
  let v1 := List.set (List.set (List.set (List.set (List.replicate 4 (0 : Int)) 0 (2 : Int)) 1 (195 : Int)) 2 (169 : Int)) 3 (7 : Int)
  p_utf_Name v1 fun r2 r3 r4 =>
  let v5 := r4 == (0 : Int)
  cond v5
  (let v6 := r2 == ([195, 169] : List UInt8)
  cond v6
  (let v7 := r3 == (3 : Int)
  cond v7
  (p_utf_Valid ([97] : List UInt8) fun r8 =>
  cond r8
  (p_utf_Valid ([192, 128] : List UInt8) fun r9 =>
  let v10 := !r9
  K v10)
  (K false))
  (K false))
  (K false))
  (K false)
noncomputable def cs_law02_awake : CSpec := { ins := [], outs := [(.bool, .s)], fn := fun (d : Unit) K => p_law02_awake  fun r0 => K ((r0, ()) : Bool × Unit) ((()) : Unit) }
theorem h_law02_awake : Holds Try.prog 10 cs_law02_awake := by
  refine holds_of (env := envOf gam_law02_awake Try.f10.ntmps fz_law02_awake) (fn := Try.f10) (code := body Try.f10.body) (rs := [0]) (lp := lp0) mixed (envTyOk _ _ _) gamOk_law02_awake Try.func10 (by kernel_rfl) (by kernel_rfl) (by kernel_rfl) (by kernel_rfl) (by kernel_rfl) (loopsOk_none (by kernel_rfl)) ?_
  intro d R K res h
  have : evC (envOf gam_law02_awake Try.f10.ntmps fz_law02_awake) lp0 (body Try.f10.body) (St.start cs_law02_awake.ins d) (retK (envOf gam_law02_awake Try.f10.ntmps fz_law02_awake) cs_law02_awake.ins cs_law02_awake.outs [0] K) = cs_law02_awake.fn d K := by kernel_rfl
  rw [this]; exact h
-- f44 slices.Clone[[]byte,byte]
noncomputable def fz_slices_CloneU8 : Nat → Bool
  | _ => false
noncomputable def gam_slices_CloneU8 : FuncId → Option CSpec
  | _ => none
theorem gamOk_slices_CloneU8 : EnvFn Try.prog (envOf gam_slices_CloneU8 Try.f44.ntmps fz_slices_CloneU8) := by
  intro f c h
  unfold envOf gam_slices_CloneU8 at h
  simp only at h
  cases h
noncomputable def p_slices_CloneU8 {R : Type} (a0 : List (Int)) (K : (List (Int)) → Option R) : Option R :=
  cond (List.isEmpty a0)
  (both
  (K ([] : List (Int)))
  (let v1 := List.replicate 0 (0 : Int)
  cond (decide (List.length v1 + List.length a0 ≤ most))
  (let v2 := v1 ++ a0
  K v2) none))
  (let v3 := List.replicate 0 (0 : Int)
  cond (decide (List.length v3 + List.length a0 ≤ most))
  (let v4 := v3 ++ a0
  K v4) none)
noncomputable def cs_slices_CloneU8 : CSpec := { ins := [(.val (.sl 5 (.int .u8)) .s)], outs := [((.sl 5 (.int .u8)), (.o .s))], fn := fun (d : (List (Int)) × Unit) K => p_slices_CloneU8 d.1 fun r0 => K ((r0, ()) : (List (Int)) × Unit) ((()) : Unit) }
theorem h_slices_CloneU8 : Holds Try.prog 44 cs_slices_CloneU8 := by
  refine holds_of (env := envOf gam_slices_CloneU8 Try.f44.ntmps fz_slices_CloneU8) (fn := Try.f44) (code := body Try.f44.body) (rs := [2]) (lp := lp0) mixed (envTyOk _ _ _) gamOk_slices_CloneU8 Try.func44 (by kernel_rfl) (by kernel_rfl) (by kernel_rfl) (by kernel_rfl) (by kernel_rfl) (loopsOk_none (by kernel_rfl)) ?_
  intro d R K res h
  have : evC (envOf gam_slices_CloneU8 Try.f44.ntmps fz_slices_CloneU8) lp0 (body Try.f44.body) (St.start cs_slices_CloneU8.ins d) (retK (envOf gam_slices_CloneU8 Try.f44.ntmps fz_slices_CloneU8) cs_slices_CloneU8.ins cs_slices_CloneU8.outs [2] K) = cs_slices_CloneU8.fn d K := by kernel_rfl
  rw [this]; exact h
-- f33 trammel/leb.PutU
noncomputable def fz_leb_PutU : Nat → Bool
  | _ => false
noncomputable def gam_leb_PutU : FuncId → Option CSpec
  | 44 => some cs_slices_CloneU8
  | _ => none
theorem gamOk_leb_PutU : EnvFn Try.prog (envOf gam_leb_PutU Try.f33.ntmps fz_leb_PutU) := by
  intro f c h
  unfold envOf gam_leb_PutU at h
  simp only at h
  split at h <;> first | (cases h; done) | (cases h; exact h_slices_CloneU8)
structure X_leb_PutU_2 where
  f1 : Int
  f5 : List (Int)

noncomputable def B_leb_PutU_2 {R : Type} (k_exit_0 : Int → (List (Int)) → Option R) (rec : X_leb_PutU_2 → Option R) (x : X_leb_PutU_2) : Option R :=
  let v1 := decide (x.f1 ≥ (128 : Int))
  cond v1
  (let v2 := IntKind.u8.wrap x.f1
  let v3 := IntKind.u8.wrap ((BitVec.ofInt IntKind.u8.bits v2 ||| BitVec.ofInt IntKind.u8.bits (128 : Int)).toNat)
  let v4 := List.set (List.replicate 1 (0 : Int)) 0 v3
  cond (decide (List.length x.f5 + List.length v4 ≤ most))
  (let v5 := x.f5 ++ v4
  cond (decide (0 ≤ (7 : Int)))
  (let v6 := shrI .u64 x.f1 (7 : Int)
  rec ⟨v6, v5⟩) none) none)
  (k_exit_0 x.f1 x.f5)
noncomputable def S_leb_PutU_2 (x : X_leb_PutU_2) : St := St.ofList [(1, (.v (.int .u64) .s x.f1)), (5, (.v (.sl 5 (.int .u8)) (.o .s) x.f5))]
def out_leb_PutU_2 : Ex → List Nat | (.exit 0) => [1, 5] | _ => []
noncomputable def fuel_leb_PutU_2 (x : X_leb_PutU_2) : Nat := fuel64
noncomputable def lp_leb_PutU : Loops := fun i R st K => match i with
  | 2 => match st 1, st 5 with
    | (.v (.int .u64) .s y1), (.v (.sl 5 (.int .u8)) (.o .s) y5) => loopN (B_leb_PutU_2 (fun e1 e5 => K (.exit 0) (St.ofList [(1, (.v (.int .u64) .s e1)), (5, (.v (.sl 5 (.int .u8)) (.o .s) e5))]))) (fuel_leb_PutU_2 ⟨y1, y5⟩) ⟨y1, y5⟩
    | _, _ => none
  | _ => none
noncomputable def c_leb_PutU_2 : Code := match loopAt 2 (body Try.f33.body) with | some c => c | none => .skip
theorem step_leb_PutU_2 (R : Type) (K : Ex → St → Option R) (rec : St → Option R) (x : X_leb_PutU_2) : evC (envOf gam_leb_PutU Try.f33.ntmps fz_leb_PutU) lp_leb_PutU c_leb_PutU_2 (S_leb_PutU_2 x) (fun e st => match e with | .normal => rec (st.only [1, 5]) | e => K e (st.only (out_leb_PutU_2 e))) = B_leb_PutU_2 (fun e1 e5 => K (.exit 0) (St.ofList [(1, (.v (.int .u64) .s e1)), (5, (.v (.sl 5 (.int .u8)) (.o .s) e5))])) (fun x => rec (S_leb_PutU_2 x)) x := by kernel_rfl
theorem ok_leb_PutU_2 : LoopOk (envOf gam_leb_PutU Try.f33.ntmps fz_leb_PutU) lp_leb_PutU c_leb_PutU_2 := by
  refine loopOk_of (hd := [1, 5]) (out := out_leb_PutU_2) (S := S_leb_PutU_2) (fun _ K => B_leb_PutU_2 (fun e1 e5 => K (.exit 0) (St.ofList [(1, (.v (.int .u64) .s e1)), (5, (.v (.sl 5 (.int .u8)) (.o .s) e5))]))) fuel_leb_PutU_2 2 step_leb_PutU_2 (fun x => by kernel_rfl) (by kernel_rfl) ?_
  intro R st K r h
  unfold lp_leb_PutU at h
  simp only at h
  split at h
  · rename_i y1 y5 hy1 hy5
    refine ⟨⟨y1, y5⟩, ?_, h⟩
    show St.ofList [(1, st 1), (5, st 5)] = _
    rw [hy1, hy5]
    rfl
  · cases h
noncomputable def p_leb_PutU {R : Type} (a0 : List (Int)) (a1 : Int) (K : (List (Int)) → Option R) : Option R :=
  p_slices_CloneU8 a0 fun r1 =>
  loopN (B_leb_PutU_2 (fun w2 w3 => let v4 := IntKind.u8.wrap w2
  let v5 := List.set (List.replicate 1 (0 : Int)) 0 v4
  cond (decide (List.length w3 + List.length v5 ≤ most))
  (let v6 := w3 ++ v5
  K v6) none)) (fuel_leb_PutU_2 ⟨a1, r1⟩) ⟨a1, r1⟩
noncomputable def cs_leb_PutU : CSpec := { ins := [(.val (.sl 5 (.int .u8)) .s), (.val (.int .u64) .s)], outs := [((.sl 5 (.int .u8)), (.o .s))], fn := fun (d : (List (Int)) × Int × Unit) K => p_leb_PutU d.1 d.2.1 fun r0 => K ((r0, ()) : (List (Int)) × Unit) ((()) : Unit) }
theorem h_leb_PutU : Holds Try.prog 33 cs_leb_PutU := by
  refine holds_of (env := envOf gam_leb_PutU Try.f33.ntmps fz_leb_PutU) (fn := Try.f33) (code := body Try.f33.body) (rs := [4]) (lp := lp_leb_PutU) mixed (envTyOk _ _ _) gamOk_leb_PutU Try.func33 (by kernel_rfl) (by kernel_rfl) (by kernel_rfl) (by kernel_rfl) (by kernel_rfl) (loopsOk_of fun c hc => ?_) ?_
  · rw [show loopsL (body Try.f33.body) = [c_leb_PutU_2] by kernel_rfl] at hc
    simp only [List.mem_cons, List.not_mem_nil, or_false] at hc
    rcases hc with rfl
    · exact ok_leb_PutU_2
  intro d R K res h
  have : evC (envOf gam_leb_PutU Try.f33.ntmps fz_leb_PutU) lp_leb_PutU (body Try.f33.body) (St.start cs_leb_PutU.ins d) (retK (envOf gam_leb_PutU Try.f33.ntmps fz_leb_PutU) cs_leb_PutU.ins cs_leb_PutU.outs [4] K) = cs_leb_PutU.fn d K := by kernel_rfl
  rw [this]; exact h
set_option maxHeartbeats 400000 in
theorem grow_small (A : Option Addr) (len cap : Nat) (n : Int) (w : World) (h0 : 0 ≤ n) (hn : (len : Int) + n ≤ 4294967296) (hl : len ≤ cap) (hcap : (cap : Int) ≤ 9223372036854775807) (h : n ≤ (cap : Int) - len) :
    Calls Try.prog 73 #[.slice A len cap, .int .i64 n] w fun e w' => e = .returned (.slice A len cap) ∧ w' = w := by
  go_enter Try.func73, Try.ntmps73
  go_wp2
  go_ret
  exact ⟨rfl, rfl⟩
set_option maxHeartbeats 1000000 in
theorem grow_some (a : Addr) (len cap m : Nat) (n : Int) (w : World) (h0 : 0 ≤ n) (hn : (len : Int) + n ≤ 4294967296) (hl : len ≤ cap) (hcap : (cap : Int) ≤ 9223372036854775807) (h : (cap : Int) - len < n) (hm : n - ((cap : Int) - len) = m) (xs : List Value) (hfo : (loadCellsFrom a 0 cap #[]).run Try.prog w.drew = .ok xs.toArray w.drew) :
    Calls Try.prog 73 #[.slice (some a) len cap, .int .i64 n] w fun e w'' => e = .returned (.slice (some ⟨w.heap.size, 0, none⟩) len (grownCap w (cap + m) cap 5)) ∧
      w'' = w.drew.alloc (.cells (xs.toArray ++ (Builtin.zeroCells #[.int .u8 0] m ++ Builtin.zeroCells #[.int .u8 0] (grownCap w (cap + m) cap 5 - (cap + m)))) 5) := by
  have hb5 : Try.t5.bytes = 1 := by kernel_rfl
  have hs5 : Try.t5.size = 1 := by kernel_rfl
  have hnx := growslice_fits (need := cap + m) (old := cap) (bytes := 1) (by omega) (by omega)
  have hge := grownCap_ge w (cap + m) cap 5
  unfold grownCap at hge ⊢
  have hlc : len ≤ (Question.appendCap (cap + m) cap 5).cut (w.tape w.drawn (Question.appendCap (cap + m) cap 5)) := by omega
  generalize hcc : (Question.appendCap (cap + m) cap 5).cut (w.tape w.drawn (Question.appendCap (cap + m) cap 5)) = cc at *
  go_enter Try.func73, Try.ntmps73
  go_wp2
  all_goals (go_ret; exact ⟨rfl, by simp⟩)
set_option maxHeartbeats 1000000 in
theorem grow_none (len cap m : Nat) (n : Int) (w : World) (h0 : 0 ≤ n) (hn : (len : Int) + n ≤ 4294967296) (hl : len ≤ cap) (hcap : (cap : Int) ≤ 9223372036854775807) (h : (cap : Int) - len < n) (hm : n - ((cap : Int) - len) = m) :
    Calls Try.prog 73 #[.slice none len cap, .int .i64 n] w fun e w'' => e = .returned (.slice (some ⟨w.heap.size, 0, none⟩) len (grownCap w (cap + m) cap 5)) ∧
      w'' = w.drew.alloc (.cells (#[] ++ (Builtin.zeroCells #[.int .u8 0] m ++ Builtin.zeroCells #[.int .u8 0] (grownCap w (cap + m) cap 5 - (cap + m)))) 5) := by
  have hb5 : Try.t5.bytes = 1 := by kernel_rfl
  have hs5 : Try.t5.size = 1 := by kernel_rfl
  have hnx := growslice_fits (need := cap + m) (old := cap) (bytes := 1) (by omega) (by omega)
  have hge := grownCap_ge w (cap + m) cap 5
  unfold grownCap at hge ⊢
  have hlc : len ≤ (Question.appendCap (cap + m) cap 5).cut (w.tape w.drawn (Question.appendCap (cap + m) cap 5)) := by omega
  generalize hcc : (Question.appendCap (cap + m) cap 5).cut (w.tape w.drawn (Question.appendCap (cap + m) cap 5)) = cc at *
  go_enter Try.func73, Try.ntmps73
  go_wp2
  all_goals (go_ret; exact ⟨rfl, by simp⟩)

noncomputable def p_slices_GrowU8 {R : Type} (a0 : List Int) (a1 : Int) (K : List Int → Option R) : Option R := cond (decide (0 ≤ a1 ∧ (a0.length : Int) + a1 ≤ 4294967296)) (K a0) none
noncomputable def cs_slices_GrowU8 : CSpec := { ins := [(.val (.sl 5 (.int .u8)) (.o .s)), (.val (.int .i64) .s)], outs := [((.sl 5 (.int .u8)), (.o .s))], fn := fun (d : (List Int) × Int × Unit) K => p_slices_GrowU8 d.1 d.2.1 fun r0 => K ((r0, ()) : (List Int) × Unit) () }

theorem grow_rep {F : Blks} {w : World} {x : List Int} {A : Option Addr} {cap m : Nat} {fp : Blks} (hr : rep F w (.sl 5 (.int .u8)) (.o .s) x (cv (.slice A x.length cap)) fp) (xs : List Value) (c : Nat) (hc : cap + m ≤ c) (hcm : c ≤ 2 ^ 63 - 1) (hl : xs.length = cap) (hle : x.length ≤ cap)
    (hx : ∀ a, A = some a → ∀ j, j < x.length → xs.getD j undef = rowW w a.block (a.off + j) 0) (hA : A = none → x = []) {w' : World}
    (hw : w' = w.drew.alloc (.cells (xs.toArray ++ (Builtin.zeroCells #[.int .u8 0] m ++ Builtin.zeroCells #[.int .u8 0] (c - (cap + m)))) 5)) :
    rep F w' (.sl 5 (.int .u8)) (.o .s) x (cv (.slice (some ⟨w.heap.size, 0, none⟩) x.length c)) (fun b => b = w.heap.size ∨ ∃ i, (fun (_ : Nat) (_ : Nat) => False) i b) := by
  subst hw
  have hnew := alloc_new (w := w.drew) (ob := .cells (xs.toArray ++ (Builtin.zeroCells #[.int .u8 0] m ++ Builtin.zeroCells #[.int .u8 0] (c - (cap + m)))) 5)
  refine row_rep (t := .int .u8) (z := x) (fs := fun _ _ => False) hnew (Nat.le_refl 0) ?_ (by show x.length ≤ c; omega) hcm ⟨fun _ _ _ _ hb => hb.elim⟩ (fun _ _ hb => hb.elim) fun i hi => ?_
  · simp [Builtin.zeroCells, hl, Ty.size]
    omega
  · have hi' : i < x.length := hi
    have hg : (xs.toArray ++ (Builtin.zeroCells #[.int .u8 0] m ++ Builtin.zeroCells #[.int .u8 0] (c - (cap + m)))).getD (i * Ty.size (.int .u8) + 0) undef = xs.getD i undef := by
      simp only [Ty.size, Nat.mul_one, Nat.add_zero, Array.getD_eq_getD_getElem?, List.getD_eq_getElem?_getD]
      rw [Array.getElem?_append_left (by simp; omega)]
      simp
    cases A with
    | none => rw [hA rfl] at hi'; simp at hi'
    | some a =>
      simp only [rep] at hr
      obtain ⟨A', cap', r1, r2, r3, r4, r5⟩ := hr
      have r1' : Value.slice (some a) x.length cap = .slice A' x.length cap' := r1
      cases r1'
      obtain ⟨_, _, _, fs, _, _, r6⟩ := r5 a rfl
      have r7 := r6 i hi
      show _ ∧ _
      have r8 : rowW w a.block (a.off + i * Ty.size (.int .u8)) 0 = .int .u8 (x.getD i 0) ∧ IntKind.u8.has (x.getD i 0) := r7
      refine ⟨hg.trans ((hx a rfl i hi').trans ?_), r8.2⟩
      have r9 := r8.1
      simp only [Ty.size, Nat.mul_one] at r9
      exact r9

theorem h_slices_GrowU8 : Holds Try.prog 73 cs_slices_GrowU8 := by
  refine ⟨⟨Try.f73, _, Try.func73, by kernel_rfl, rfl⟩, ?_⟩
  intro F w (d : List Int × Int × Unit) vs fps R K res hFs hd hfp hargs hcall
  obtain ⟨x, n, u⟩ := d
  obtain ⟨v0, vs1, rfl, i0, _, r0, v1, vs2, rfl, i1, _, r1, h2⟩ := hargs
  have h2 : vs2 = [] := h2
  subst h2
  obtain ⟨e1, k1⟩ := rep_int i1 (by intro h; cases h) r1
  subst e1
  have hcall' : cond (decide (0 ≤ n ∧ ((x : List Int).length : Int) + n ≤ 4294967296)) (K (x, ()) ()) none = some res := hcall
  by_cases hb : 0 ≤ n ∧ ((x : List Int).length : Int) + n ≤ 4294967296
  · rw [decide_eq_true hb] at hcall'
    have hK : K (x, ()) () = some res := hcall'
    have hr0 := r0
    simp only [rep] at r0
    obtain ⟨A, cap, q1, q2, q3, q4, q5⟩ := r0
    have hv0 : v0 = .slice A (List.length (α := Int) x) cap := by
      have h2 : v0 = valOf (.sl 5 (.int .u8)) (cv v0) := i0
      rw [h2]
      simp only [valOf, Ty.agg, Bool.false_eq_true, if_false]
      exact q1
    subst hv0
    have q2' : List.length (α := Int) x ≤ cap := q2
    by_cases hs : n ≤ (cap : Int) - List.length (α := Int) x
    · refine (grow_small A _ cap n w hb.1 hb.2 q2' (by omega) hs).mono fun e w' he => ?_
      obtain ⟨rfl, rfl⟩ := he
      refine ⟨_, (x, ()), (), F, fps 0, fun _ _ => False, rfl, hK, fun _ hb => hb, Grew.refl _, fun _ _ _ => rfl, ⟨fun _ => i0, hr0⟩, ⟨⟨fun _ _ _ _ hb => hb.elim⟩, fun _ _ hb => hb.elim, trivial⟩, fun b hb => ?_, fun b hb => ⟨hFs b hb, .inl hb⟩⟩
      rcases hb with hb | ⟨_, hb⟩
      · exact ⟨(hfp 0 b hb).1, (hfp 0 b hb).2, .inl ⟨0, hb⟩⟩
      · exact hb.elim
    · obtain ⟨m, hm⟩ : ∃ m : Nat, n - ((cap : Int) - List.length (α := Int) x) = m := ⟨_, (Int.toNat_of_nonneg (by omega)).symm⟩
      have hgc := grownCap_ge w (cap + m) cap 5
      have hmx := grownCap_le_maxLen w (cap + m) cap 5 (by unfold maxLen; omega)
      have hmx' : grownCap w (cap + m) cap 5 ≤ 2 ^ 63 - 1 := hmx
      have fin : ∀ (xs : List Value), xs.length = cap → (∀ a, A = some a → ∀ j, j < List.length (α := Int) x → xs.getD j undef = rowW w a.block (a.off + j) 0) → (A = none → (x : List Int) = []) → ∀ (e : Ending) (w' : World),
          (e = .returned (.slice (some ⟨w.heap.size, 0, none⟩) (List.length (α := Int) x) (grownCap w (cap + m) cap 5)) ∧ w' = w.drew.alloc (.cells (xs.toArray ++ (Builtin.zeroCells #[.int .u8 0] m ++ Builtin.zeroCells #[.int .u8 0] (grownCap w (cap + m) cap 5 - (cap + m)))) 5)) →
          ∃ v ro rb, ∃ F' fo : Blks, ∃ fb : Nat → Blks, e = .returned v ∧ K ro rb = some res ∧ (∀ b, F b → F' b) ∧ Grew w w' ∧ (∀ b, b < w.heap.size → (∀ i, ¬ fps i b) → Same w w' b) ∧
            ResR F' w' v fo (resS cs_slices_GrowU8.outs ro) ∧ (Disj fb ∧ (∀ i b, fb i b → ¬ fo b) ∧ BackR F' w' cs_slices_GrowU8.ins rb [.slice A (List.length (α := Int) x) cap, .int .i64 n] fb) ∧ (∀ b, (fo b ∨ ∃ i, fb i b) → ¬ F' b ∧ b < w'.heap.size ∧ ((∃ i, fps i b) ∨ w.heap.size ≤ b)) ∧ (∀ b, F' b → b < w'.heap.size ∧ (F b ∨ (∃ i, fps i b) ∨ w.heap.size ≤ b)) := by
        intro xs hl hx hA e w' he
        obtain ⟨rfl, rfl⟩ := he
        have hsz : (w.drew.alloc (.cells (xs.toArray ++ (Builtin.zeroCells #[.int .u8 0] m ++ Builtin.zeroCells #[.int .u8 0] (grownCap w (cap + m) cap 5 - (cap + m)))) 5)).heap.size = w.heap.size + 1 := World.size_alloc w.drew _
        have hrep := grow_rep (m := m) hr0 xs _ hgc hmx' hl q2' hx hA rfl
        refine ⟨_, (x, ()), (), F, _, fun _ _ => False, rfl, hK, fun _ hb => hb, ⟨⟨rfl, rfl, rfl⟩, by omega⟩, fun b hb _ => alloc_old (w := w.drew) hb, ⟨fun _ => isV_sl, hrep⟩, ⟨⟨fun _ _ _ _ hb => hb.elim⟩, fun _ _ hb => hb.elim, trivial⟩, fun b hb => ?_, fun b hb => ⟨?_, .inl hb⟩⟩
        · rcases hb with (hb | ⟨_, hb⟩) | ⟨_, hb⟩
          · subst hb
            exact ⟨fun hc => Nat.lt_irrefl _ (hFs _ hc), by omega, .inr (Nat.le_refl _)⟩
          · exact hb.elim
          · exact hb.elim
        · have := hFs b hb
          omega
      cases A with
      | none =>
        have hc0 : cap = 0 := q4 rfl
        subst hc0
        refine (grow_none _ 0 m n w hb.1 hb.2 q2' (by omega) (by omega) hm).mono fun e w' he => fin [] rfl nofun (fun _ => List.eq_nil_of_length_eq_zero (Nat.le_zero.1 q2')) e w' he
      | some a =>
        obtain ⟨hsp, p1, p2, _⟩ := q5 a rfl
        obtain ⟨b, k, sp⟩ := a
        simp only at hsp
        subst hsp
        simp only [Ty.size, Nat.mul_one] at p1 p2
        have hld := run_loadCellsFrom (P := Try.prog) (w := w.drew) ⟨b, k, none⟩ (fun j => rowW w b (k + j) 0) cap 0 #[] (fun j hj => by
          rw [World.cell?_drew, addr_add, cell_row p2 (by omega)]
          simp only [rowW, Nat.zero_add, rowOf, Nat.add_zero])
        refine (grow_some _ _ cap m n w hb.1 hb.2 q2' (by omega) (by omega) hm ((List.range cap).map fun j => rowW w b (k + j) 0) ?_).mono fun e w' he => fin _ (by simp) (fun a ha j hj => ?_) nofun e w' he
        · rw [hld]
          simp
        · cases ha
          have : j < cap := by omega
          simp [List.getD, this]
  · rw [decide_eq_false hb] at hcall'
    cases hcall'

-- f32 slices.Concat[[]byte,byte]
noncomputable def fz_slices_ConcatU8 : Nat → Bool
  | _ => false
noncomputable def gam_slices_ConcatU8 : FuncId → Option CSpec
  | 73 => some cs_slices_GrowU8
  | _ => none
theorem gamOk_slices_ConcatU8 : EnvFn Try.prog (envOf gam_slices_ConcatU8 Try.f32.ntmps fz_slices_ConcatU8) := by
  intro f c h
  unfold envOf gam_slices_ConcatU8 at h
  simp only at h
  split at h <;> first | (cases h; done) | (cases h; exact h_slices_GrowU8)
structure X_slices_ConcatU8_11 where
  f6 : List (Int)
  f25 : List (List (Int))
  f26 : Int
  f27 : Int

noncomputable def B_slices_ConcatU8_11 {R : Type} (k_exit_2 : (List (Int)) → Option R) (rec : X_slices_ConcatU8_11 → Option R) (x : X_slices_ConcatU8_11) : Option R :=
  let v1 := decide (x.f27 < x.f26)
  cond v1
  (cond (inB x.f27 (List.length x.f25))
  (let v2 := List.getD x.f25 x.f27.toNat ([] : List (Int))
  cond (decide (List.length x.f6 + List.length v2 ≤ most))
  (let v3 := x.f6 ++ v2
  let v4 := IntKind.i64.wrap (x.f27 + (1 : Int))
  rec ⟨v3, x.f25, x.f26, v4⟩) none) none)
  (k_exit_2 x.f6)
noncomputable def S_slices_ConcatU8_11 (x : X_slices_ConcatU8_11) : St := St.ofList [(6, (.v (.sl 5 (.int .u8)) (.o .s) x.f6)), (25, (.v (.sl 22 (.sl 5 (.int .u8))) .s x.f25)), (26, (.v (.int .i64) .s x.f26)), (27, (.v (.int .i64) .s x.f27))]
def out_slices_ConcatU8_11 : Ex → List Nat | (.exit 2) => [6] | _ => []
noncomputable def fuel_slices_ConcatU8_11 (x : X_slices_ConcatU8_11) : Nat := fuel64
structure X_slices_ConcatU8_3 where
  f0 : List (List (Int))
  f3 : Int
  f9 : List (List (Int))
  f10 : Int
  f11 : Int

noncomputable def B_slices_ConcatU8_3 {R : Type} (k_exit_0 : (List (List (Int))) → Int → Option R) (rec : X_slices_ConcatU8_3 → Option R) (x : X_slices_ConcatU8_3) : Option R :=
  let v1 := decide (x.f11 < x.f10)
  cond v1
  (cond (inB x.f11 (List.length x.f9))
  (let v2 := List.getD x.f9 x.f11.toNat ([] : List (Int))
  let v3 := ((List.length v2 : Nat) : Int)
  let v4 := IntKind.i64.wrap (x.f3 + v3)
  let v5 := decide (v4 < (0 : Int))
  cond v5
  (none)
  (let v6 := IntKind.i64.wrap (x.f11 + (1 : Int))
  rec ⟨x.f0, v4, x.f9, x.f10, v6⟩)) none)
  (k_exit_0 x.f0 x.f3)
noncomputable def S_slices_ConcatU8_3 (x : X_slices_ConcatU8_3) : St := St.ofList [(0, (.v (.sl 22 (.sl 5 (.int .u8))) .s x.f0)), (3, (.v (.int .i64) .s x.f3)), (9, (.v (.sl 22 (.sl 5 (.int .u8))) .s x.f9)), (10, (.v (.int .i64) .s x.f10)), (11, (.v (.int .i64) .s x.f11))]
def out_slices_ConcatU8_3 : Ex → List Nat | (.exit 0) => [0, 3] | _ => []
noncomputable def fuel_slices_ConcatU8_3 (x : X_slices_ConcatU8_3) : Nat := fuel64
noncomputable def lp_slices_ConcatU8 : Loops := fun i R st K => match i with
  | 11 => match st 6, st 25, st 26, st 27 with
    | (.v (.sl 5 (.int .u8)) (.o .s) y6), (.v (.sl 22 (.sl 5 (.int .u8))) .s y25), (.v (.int .i64) .s y26), (.v (.int .i64) .s y27) => loopN (B_slices_ConcatU8_11 (fun e6 => K (.exit 2) (St.ofList [(6, (.v (.sl 5 (.int .u8)) (.o .s) e6))]))) (fuel_slices_ConcatU8_11 ⟨y6, y25, y26, y27⟩) ⟨y6, y25, y26, y27⟩
    | _, _, _, _ => none
  | 3 => match st 0, st 3, st 9, st 10, st 11 with
    | (.v (.sl 22 (.sl 5 (.int .u8))) .s y0), (.v (.int .i64) .s y3), (.v (.sl 22 (.sl 5 (.int .u8))) .s y9), (.v (.int .i64) .s y10), (.v (.int .i64) .s y11) => loopN (B_slices_ConcatU8_3 (fun e0 e3 => K (.exit 0) (St.ofList [(0, (.v (.sl 22 (.sl 5 (.int .u8))) .s e0)), (3, (.v (.int .i64) .s e3))]))) (fuel_slices_ConcatU8_3 ⟨y0, y3, y9, y10, y11⟩) ⟨y0, y3, y9, y10, y11⟩
    | _, _, _, _, _ => none
  | _ => none
noncomputable def c_slices_ConcatU8_11 : Code := match loopAt 11 (body Try.f32.body) with | some c => c | none => .skip
theorem step_slices_ConcatU8_11 (R : Type) (K : Ex → St → Option R) (rec : St → Option R) (x : X_slices_ConcatU8_11) : evC (envOf gam_slices_ConcatU8 Try.f32.ntmps fz_slices_ConcatU8) lp_slices_ConcatU8 c_slices_ConcatU8_11 (S_slices_ConcatU8_11 x) (fun e st => match e with | .normal => rec (st.only [6, 25, 26, 27]) | e => K e (st.only (out_slices_ConcatU8_11 e))) = B_slices_ConcatU8_11 (fun e6 => K (.exit 2) (St.ofList [(6, (.v (.sl 5 (.int .u8)) (.o .s) e6))])) (fun x => rec (S_slices_ConcatU8_11 x)) x := by kernel_rfl
theorem ok_slices_ConcatU8_11 : LoopOk (envOf gam_slices_ConcatU8 Try.f32.ntmps fz_slices_ConcatU8) lp_slices_ConcatU8 c_slices_ConcatU8_11 := by
  refine loopOk_of (hd := [6, 25, 26, 27]) (out := out_slices_ConcatU8_11) (S := S_slices_ConcatU8_11) (fun _ K => B_slices_ConcatU8_11 (fun e6 => K (.exit 2) (St.ofList [(6, (.v (.sl 5 (.int .u8)) (.o .s) e6))]))) fuel_slices_ConcatU8_11 11 step_slices_ConcatU8_11 (fun x => by kernel_rfl) (by kernel_rfl) ?_
  intro R st K r h
  unfold lp_slices_ConcatU8 at h
  simp only at h
  split at h
  · rename_i y6 y25 y26 y27 hy6 hy25 hy26 hy27
    refine ⟨⟨y6, y25, y26, y27⟩, ?_, h⟩
    show St.ofList [(6, st 6), (25, st 25), (26, st 26), (27, st 27)] = _
    rw [hy6, hy25, hy26, hy27]
    rfl
  · cases h
noncomputable def c_slices_ConcatU8_3 : Code := match loopAt 3 (body Try.f32.body) with | some c => c | none => .skip
theorem step_slices_ConcatU8_3 (R : Type) (K : Ex → St → Option R) (rec : St → Option R) (x : X_slices_ConcatU8_3) : evC (envOf gam_slices_ConcatU8 Try.f32.ntmps fz_slices_ConcatU8) lp_slices_ConcatU8 c_slices_ConcatU8_3 (S_slices_ConcatU8_3 x) (fun e st => match e with | .normal => rec (st.only [0, 3, 9, 10, 11]) | e => K e (st.only (out_slices_ConcatU8_3 e))) = B_slices_ConcatU8_3 (fun e0 e3 => K (.exit 0) (St.ofList [(0, (.v (.sl 22 (.sl 5 (.int .u8))) .s e0)), (3, (.v (.int .i64) .s e3))])) (fun x => rec (S_slices_ConcatU8_3 x)) x := by kernel_rfl
theorem ok_slices_ConcatU8_3 : LoopOk (envOf gam_slices_ConcatU8 Try.f32.ntmps fz_slices_ConcatU8) lp_slices_ConcatU8 c_slices_ConcatU8_3 := by
  refine loopOk_of (hd := [0, 3, 9, 10, 11]) (out := out_slices_ConcatU8_3) (S := S_slices_ConcatU8_3) (fun _ K => B_slices_ConcatU8_3 (fun e0 e3 => K (.exit 0) (St.ofList [(0, (.v (.sl 22 (.sl 5 (.int .u8))) .s e0)), (3, (.v (.int .i64) .s e3))]))) fuel_slices_ConcatU8_3 3 step_slices_ConcatU8_3 (fun x => by kernel_rfl) (by kernel_rfl) ?_
  intro R st K r h
  unfold lp_slices_ConcatU8 at h
  simp only at h
  split at h
  · rename_i y0 y3 y9 y10 y11 hy0 hy3 hy9 hy10 hy11
    refine ⟨⟨y0, y3, y9, y10, y11⟩, ?_, h⟩
    show St.ofList [(0, st 0), (3, st 3), (9, st 9), (10, st 10), (11, st 11)] = _
    rw [hy0, hy3, hy9, hy10, hy11]
    rfl
  · cases h
noncomputable def p_slices_ConcatU8 {R : Type} (a0 : List (List (Int))) (K : (List (Int)) → Option R) : Option R :=
  let v1 := ((List.length a0 : Nat) : Int)
  loopN (B_slices_ConcatU8_3 (fun w2 w3 => p_slices_GrowU8 ([] : List (Int)) w3 fun r4 =>
  let v5 := ((List.length w2 : Nat) : Int)
  loopN (B_slices_ConcatU8_11 (fun w6 => K w6)) (fuel_slices_ConcatU8_11 ⟨r4, w2, v5, (0 : Int)⟩) ⟨r4, w2, v5, (0 : Int)⟩)) (fuel_slices_ConcatU8_3 ⟨a0, (0 : Int), a0, v1, (0 : Int)⟩) ⟨a0, (0 : Int), a0, v1, (0 : Int)⟩
noncomputable def cs_slices_ConcatU8 : CSpec := { ins := [(.val (.sl 22 (.sl 5 (.int .u8))) .s)], outs := [((.sl 5 (.int .u8)), (.o .s))], fn := fun (d : (List (List (Int))) × Unit) K => p_slices_ConcatU8 d.1 fun r0 => K ((r0, ()) : (List (Int)) × Unit) ((()) : Unit) }
theorem h_slices_ConcatU8 : Holds Try.prog 32 cs_slices_ConcatU8 := by
  refine holds_of (env := envOf gam_slices_ConcatU8 Try.f32.ntmps fz_slices_ConcatU8) (fn := Try.f32) (code := body Try.f32.body) (rs := [2]) (lp := lp_slices_ConcatU8) mixed (envTyOk _ _ _) gamOk_slices_ConcatU8 Try.func32 (by kernel_rfl) (by kernel_rfl) (by kernel_rfl) (by kernel_rfl) (by kernel_rfl) (loopsOk_of fun c hc => ?_) ?_
  · rw [show loopsL (body Try.f32.body) = [c_slices_ConcatU8_3, c_slices_ConcatU8_11] by kernel_rfl] at hc
    simp only [List.mem_cons, List.not_mem_nil, or_false] at hc
    rcases hc with rfl | rfl
    · exact ok_slices_ConcatU8_3
    · exact ok_slices_ConcatU8_11
  intro d R K res h
  have : evC (envOf gam_slices_ConcatU8 Try.f32.ntmps fz_slices_ConcatU8) lp_slices_ConcatU8 (body Try.f32.body) (St.start cs_slices_ConcatU8.ins d) (retK (envOf gam_slices_ConcatU8 Try.f32.ntmps fz_slices_ConcatU8) cs_slices_ConcatU8.ins cs_slices_ConcatU8.outs [2] K) = cs_slices_ConcatU8.fn d K := by kernel_rfl
  rw [this]; exact h
-- f11 trammel/utf.PutName
noncomputable def fz_utf_PutName : Nat → Bool
  | _ => false
noncomputable def gam_utf_PutName : FuncId → Option CSpec
  | 13 => some cs_utf_Valid
  | 32 => some cs_slices_ConcatU8
  | 33 => some cs_leb_PutU
  | _ => none
theorem gamOk_utf_PutName : EnvFn Try.prog (envOf gam_utf_PutName Try.f11.ntmps fz_utf_PutName) := by
  intro f c h
  unfold envOf gam_utf_PutName at h
  simp only at h
  split at h <;> first | (cases h; done) | (cases h; exact h_utf_Valid) | (cases h; exact h_slices_ConcatU8) | (cases h; exact h_leb_PutU)
noncomputable def p_utf_PutName {R : Type} (a0 : List (Int)) (a1 : List UInt8) (K : (List (Int)) → Int → Option R) : Option R :=
  p_utf_Valid a1 fun r1 =>
  let v2 := !r1
  cond v2
  (K ([] : List (Int)) (2 : Int))
  (let v3 := ((List.length a1 : Nat) : Int)
  let v4 := decide (v3 > (64 : Int))
  cond v4
  (K ([] : List (Int)) (4 : Int))
  (let v5 := ((List.length a1 : Nat) : Int)
  let v6 := IntKind.u64.wrap v5
  p_leb_PutU a0 v6 fun r7 =>
  cond (decide (List.length a1 ≤ most))
  (let v8 := nums a1
  let v9 := List.set (List.set (List.replicate 2 ([] : List (Int))) 0 r7) 1 v8
  p_slices_ConcatU8 v9 fun r10 =>
  K r10 (0 : Int)) none))
noncomputable def cs_utf_PutName : CSpec := { ins := [(.val (.sl 5 (.int .u8)) .s), (.val .str .s)], outs := [((.sl 5 (.int .u8)), (.o .s)), ((.int .i64), .s)], fn := fun (d : (List (Int)) × (List UInt8) × Unit) K => p_utf_PutName d.1 d.2.1 fun r0 r1 => K ((r0, r1, ()) : (List (Int)) × Int × Unit) ((()) : Unit) }
theorem h_utf_PutName : Holds Try.prog 11 cs_utf_PutName := by
  refine holds_of (env := envOf gam_utf_PutName Try.f11.ntmps fz_utf_PutName) (fn := Try.f11) (code := body Try.f11.body) (rs := [4, 5]) (lp := lp0) mixed (envTyOk _ _ _) gamOk_utf_PutName Try.func11 (by kernel_rfl) (by kernel_rfl) (by kernel_rfl) (by kernel_rfl) (by kernel_rfl) (loopsOk_none (by kernel_rfl)) ?_
  intro d R K res h
  have : evC (envOf gam_utf_PutName Try.f11.ntmps fz_utf_PutName) lp0 (body Try.f11.body) (St.start cs_utf_PutName.ins d) (retK (envOf gam_utf_PutName Try.f11.ntmps fz_utf_PutName) cs_utf_PutName.ins cs_utf_PutName.outs [4, 5] K) = cs_utf_PutName.fn d K := by kernel_rfl
  rw [this]; exact h
-- f3 trammel/trammellaw02.UtfBack
noncomputable def fz_law02_UtfBack : Nat → Bool
  | _ => false
noncomputable def gam_law02_UtfBack : FuncId → Option CSpec
  | 10 => some cs_law02_awake
  | 11 => some cs_utf_PutName
  | 12 => some cs_utf_Name
  | _ => none
theorem gamOk_law02_UtfBack : EnvFn Try.prog (envOf gam_law02_UtfBack Try.f3.ntmps fz_law02_UtfBack) := by
  intro f c h
  unfold envOf gam_law02_UtfBack at h
  simp only at h
  split at h <;> first | (cases h; done) | (cases h; exact h_law02_awake) | (cases h; exact h_utf_PutName) | (cases h; exact h_utf_Name)
noncomputable def p_law02_UtfBack {R : Type} (a0 : List UInt8) (a1 : List (Int)) (K : Bool → Option R) : Option R :=
  p_law02_awake  fun r1 =>
  let v2 := !r1
  cond v2
  (K false)
  (let v3 := ((List.length a1 : Nat) : Int)
  let v4 := minI v3 (1000 : Int)
  cond (inR (0 : Int) v4 (List.length a1))
  (let v5 := rng a1 (0 : Int) v4
  p_utf_PutName ([] : List (Int)) a0 fun r6 r7 =>
  let v8 := r7 != (0 : Int)
  cond v8
  (let v9 := ((List.length r6 : Nat) : Int)
  let v10 := v9 == (0 : Int)
  K v10)
  (cond (decide (List.length r6 + List.length v5 ≤ most))
  (let v11 := r6 ++ v5
  p_utf_Name v11 fun r12 r13 r14 =>
  let v15 := r14 == (0 : Int)
  cond v15
  (let v16 := r12 == a0
  cond v16
  (let v17 := List.map (fun _ => ()) r6
  let v18 := ((List.length v17 : Nat) : Int)
  let v19 := r13 == v18
  K v19)
  (K false))
  (K false)) none)) none)
noncomputable def cs_law02_UtfBack : CSpec := { ins := [(.val .str .s), (.val (.sl 5 (.int .u8)) .s)], outs := [(.bool, .s)], fn := fun (d : (List UInt8) × (List (Int)) × Unit) K => p_law02_UtfBack d.1 d.2.1 fun r0 => K ((r0, ()) : Bool × Unit) ((()) : Unit) }
theorem h_law02_UtfBack : Holds Try.prog 3 cs_law02_UtfBack := by
  refine holds_of (env := envOf gam_law02_UtfBack Try.f3.ntmps fz_law02_UtfBack) (fn := Try.f3) (code := body Try.f3.body) (rs := [4]) (lp := lp0) mixed (envTyOk _ _ _) gamOk_law02_UtfBack Try.func3 (by kernel_rfl) (by kernel_rfl) (by kernel_rfl) (by kernel_rfl) (by kernel_rfl) (loopsOk_none (by kernel_rfl)) ?_
  intro d R K res h
  have : evC (envOf gam_law02_UtfBack Try.f3.ntmps fz_law02_UtfBack) lp0 (body Try.f3.body) (St.start cs_law02_UtfBack.ins d) (retK (envOf gam_law02_UtfBack Try.f3.ntmps fz_law02_UtfBack) cs_law02_UtfBack.ins cs_law02_UtfBack.outs [4] K) = cs_law02_UtfBack.fn d K := by kernel_rfl
  rw [this]; exact h
-- f4 trammel/trammellaw02.UtfCut
noncomputable def fz_law02_UtfCut : Nat → Bool
  | _ => false
noncomputable def gam_law02_UtfCut : FuncId → Option CSpec
  | 10 => some cs_law02_awake
  | 11 => some cs_utf_PutName
  | 12 => some cs_utf_Name
  | 13 => some cs_utf_Valid
  | _ => none
theorem gamOk_law02_UtfCut : EnvFn Try.prog (envOf gam_law02_UtfCut Try.f4.ntmps fz_law02_UtfCut) := by
  intro f c h
  unfold envOf gam_law02_UtfCut at h
  simp only at h
  split at h <;> first | (cases h; done) | (cases h; exact h_law02_awake) | (cases h; exact h_utf_PutName) | (cases h; exact h_utf_Name) | (cases h; exact h_utf_Valid)
noncomputable def p_law02_UtfCut {R : Type} (a0 : List UInt8) (a1 : Int) (K : Bool → Option R) : Option R :=
  p_law02_awake  fun r1 =>
  let v2 := !r1
  cond v2
  (K false)
  (p_utf_PutName ([] : List (Int)) a0 fun r3 r4 =>
  let v5 := r4 != (0 : Int)
  cond v5
  (K true)
  (let v6 := decide (a1 < (0 : Int))
  cond v6
  (K true)
  (let v7 := ((List.length r3 : Nat) : Int)
  let v8 := decide (a1 ≥ v7)
  cond v8
  (K true)
  (cond (inR (0 : Int) a1 (List.length r3))
  (let v9 := rng r3 (0 : Int) a1
  p_utf_Name v9 fun r10 r11 r12 =>
  let v13 := r12 != (1 : Int)
  cond v13
  (K false)
  (let v14 := r11 != (0 : Int)
  cond v14
  (K false)
  (let v15 := ((List.length a0 : Nat) : Int)
  let v16 := decide (a1 ≥ v15)
  cond v16
  (K true)
  (cond (inR (0 : Int) a1 (List.length a0))
  (let v17 := rng a0 (0 : Int) a1
  cond (inB a1 (List.length a0))
  (let v18 := bt a0 a1
  let v19 := decide (v18 < (128 : Int))
  p_utf_Valid v17 fun r20 =>
  cond v19
  (let v21 := r20 == true
  K v21)
  (cond (inB a1 (List.length a0))
  (let v22 := bt a0 a1
  let v23 := decide (v22 > (191 : Int))
  let v24 := r20 == v23
  K v24) none)) none) none)))) none))))
noncomputable def cs_law02_UtfCut : CSpec := { ins := [(.val .str .s), (.val (.int .i64) .s)], outs := [(.bool, .s)], fn := fun (d : (List UInt8) × Int × Unit) K => p_law02_UtfCut d.1 d.2.1 fun r0 => K ((r0, ()) : Bool × Unit) ((()) : Unit) }
theorem h_law02_UtfCut : Holds Try.prog 4 cs_law02_UtfCut := by
  refine holds_of (env := envOf gam_law02_UtfCut Try.f4.ntmps fz_law02_UtfCut) (fn := Try.f4) (code := body Try.f4.body) (rs := [4]) (lp := lp0) mixed (envTyOk _ _ _) gamOk_law02_UtfCut Try.func4 (by kernel_rfl) (by kernel_rfl) (by kernel_rfl) (by kernel_rfl) (by kernel_rfl) (loopsOk_none (by kernel_rfl)) ?_
  intro d R K res h
  have : evC (envOf gam_law02_UtfCut Try.f4.ntmps fz_law02_UtfCut) lp0 (body Try.f4.body) (St.start cs_law02_UtfCut.ins d) (retK (envOf gam_law02_UtfCut Try.f4.ntmps fz_law02_UtfCut) cs_law02_UtfCut.ins cs_law02_UtfCut.outs [4] K) = cs_law02_UtfCut.fn d K := by kernel_rfl
  rw [this]; exact h
end Go.Trm.G1
