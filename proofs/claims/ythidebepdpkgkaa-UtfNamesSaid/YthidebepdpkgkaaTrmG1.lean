import Derived.Test.YthidebepdpkgkaaTrmHand
import Derived.Test.YthidebepdpkgkaaProg
import Derived.KernelRfl
set_option linter.unusedVariables false
set_option linter.unusedSimpArgs false
namespace Go.Trm.G1
open Go.Proofs
set_option maxRecDepth 100000
noncomputable def envTy : TypeId → Option Ty
  | 2 => some (.int .i64)
  | 3 => some (.int .i64)
  | 4 => some .bool
  | 5 => some (.int .u8)
  | 6 => some (.int .u8)
  | 7 => some (.pair (.int .i64) (.pair (.int .i64) (.pair .bool (.pair (.int .u8) .unit))))
  | 8 => some (.pair (.int .i64) (.pair (.int .i64) (.pair .bool (.pair (.int .u8) .unit))))
  | 9 => some .str
  | 10 => some .str
  | 11 => some .str
  | 12 => some (.int .u64)
  | 13 => some (.pair .str (.pair (.int .u64) .unit))
  | 14 => some (.pair .str (.pair (.int .u64) .unit))
  | 21 => some (.int .i32)
  | 25 => some (.sl 5 (.int .u8))
  | 26 => some (.sl 39 (.pair (.int .i64) (.pair (.sl 5 (.int .u8)) .unit)))
  | 27 => some (.int .i64)
  | 30 => some (.sl 38 (.pair (.int .i64) (.pair (.sl 5 (.int .u8)) .unit)))
  | 37 => some (.pair (.int .i64) (.pair (.sl 5 (.int .u8)) .unit))
  | 38 => some (.pair (.int .i64) (.pair (.sl 5 (.int .u8)) .unit))
  | 39 => some (.pair (.int .i64) (.pair (.sl 5 (.int .u8)) .unit))
  | 58 => some (.arr 5 (.int .i64))
  | 61 => some (.pair (.int .i64) .unit)
  | 62 => some (.pair (.int .i64) .unit)
  | 64 => some (.int .u64)
  | 73 => some (.ptr 62 (.pair (.int .i64) .unit))
  | 77 => some (.int .u64)
  | 78 => some (.sl 4 .bool)
  | 81 => some (.sl 25 (.sl 5 (.int .u8)))
  | 84 => some (.sl 3 (.int .i64))
  | 92 => some (.int .u32)
  | 93 => some (.int .u8)
  | 94 => some (.int .u8)
  | 96 => some (.ptr 5 (.int .u8))
  | 97 => some (.int .i32)
  | 98 => some (.int .i32)
  | _ => none
noncomputable def envOf (g : FuncId → Option CSpec) (n : Nat) (fz : Nat → Bool) : Env := ⟨envTy, g, n, fz⟩
theorem envTyOk (g : FuncId → Option CSpec) (n : Nat) (fz : Nat → Bool) : EnvTy Try.prog (envOf g n fz) := by
  intro T t h
  unfold envOf envTy at h
  simp only at h
  split at h <;> first | (cases h; done) | (simp only [Option.some.injEq] at h; subst h; kernel_rfl)
theorem mixed : Try.prog.follows .mixedOrders = true := by kernel_rfl
noncomputable def body (o : Option Code) : Code := match o with | some c => c | none => .skip
noncomputable def lp0 : Loops := fun _ _ _ _ => none
noncomputable def loopAt (id : Nat) : Code → Option Code
  | .loop c => match firstId c with
    | some i => match Nat.beq i id with
      | true => some c
      | false => loopAt id c
    | none => loopAt id c
  | .seq a b => match loopAt id a with
    | some c => some c
    | none => loopAt id b
  | .cond _ a b => match loopAt id a with
    | some c => some c
    | none => loopAt id b
  | .block _ c => loopAt id c
  | .scope c => loopAt id c
  | _ => none

-- REFUSED f0 main.main: list index out of range
-- REFUSED f1 gosem.cut: list index out of range
-- REFUSED f2 gosem.cut.init: no contract of f1
-- f45 trammel/leb.most
noncomputable def fz45 : Nat → Bool
  | _ => false
noncomputable def gam45 : FuncId → Option CSpec
  | _ => none
theorem gamOk45 : EnvFn Try.prog (envOf gam45 Try.f45.ntmps fz45) := by
  intro f c h
  unfold envOf gam45 at h
  simp only at h
  cases h
noncomputable def p45 {R : Type} (a0 : Int) (K : Int → Option R) : Option R :=
  let v1 := IntKind.i64.wrap (a0 + (6 : Int))
  cond ((7 : Int) != 0)
  (let v2 := IntKind.i64.wrap (Int.tdiv v1 (7 : Int))
  K v2) none
noncomputable def cs45 : CSpec := { ins := [(.val (.int .i64) .s)], outs := [((.int .i64), .s)], fn := fun (d : Int × Unit) K => p45 d.1 fun r0 => K ((r0, ()) : Int × Unit) () }
theorem h45 : Holds Try.prog 45 cs45 := by
  refine holds_of (env := envOf gam45 Try.f45.ntmps fz45) (fn := Try.f45) (code := body Try.f45.body) (rs := [2]) (lp := lp0) mixed (envTyOk _ _ _) gamOk45 Try.func45 (by kernel_rfl) (by kernel_rfl) (by kernel_rfl) (by kernel_rfl) (by kernel_rfl) (loopsOk_none (by kernel_rfl)) () ?_
  intro d R K res h
  have : evC (envOf gam45 Try.f45.ntmps fz45) lp0 (body Try.f45.body) (St.args (initS cs45.ins d)) (retK (envOf gam45 Try.f45.ntmps fz45) cs45.outs [2] fun r => K r ()) = cs45.fn d K := by kernel_rfl
  rw [this]; exact h
-- f40 trammel/leb.raw
noncomputable def fz40 : Nat → Bool
  | _ => false
noncomputable def gam40 : FuncId → Option CSpec
  | 45 => some cs45
  | _ => none
theorem gamOk40 : EnvFn Try.prog (envOf gam40 Try.f40.ntmps fz40) := by
  intro f c h
  unfold envOf gam40 at h
  simp only at h
  split at h <;> first | (cases h; done) | (cases h; exact h45)
structure X40_5 where
  f1 : Int
  f8 : Int
  f17 : List (Int)
  f18 : Int
  f19 : Int

noncomputable def B40_5 {R : Type} (k_ret : Int → Int → Int → Int → Option R) (k_exit_0 : Option R) (rec : X40_5 → Option R) (x : X40_5) : Option R :=
  let v1 := decide (x.f19 < x.f18)
  cond v1
  (cond (inB x.f19 (List.length x.f17))
  (let v2 := List.getD x.f17 x.f19.toNat (0 : Int)
  let v3 := IntKind.u8.wrap ((BitVec.ofInt IntKind.u8.bits v2 &&& BitVec.ofInt IntKind.u8.bits (127 : Int)).toNat)
  let v4 := IntKind.u64.wrap v3
  let v5 := IntKind.i64.wrap ((7 : Int) * x.f19)
  let v6 := IntKind.u64.wrap v5
  cond (decide (0 ≤ v6))
  (let v7 := shlI .u64 v4 v6
  let v8 := IntKind.u64.wrap ((BitVec.ofInt IntKind.u64.bits x.f8 ||| BitVec.ofInt IntKind.u64.bits v7).toNat)
  let v9 := decide (v2 < (128 : Int))
  cond v9
  (let v10 := IntKind.i64.wrap (x.f19 + (1 : Int))
  k_ret v8 v2 v10 (0 : Int))
  (let v11 := IntKind.i64.wrap (x.f19 + (1 : Int))
  p45 x.f1 fun r12 =>
  let v13 := v11 == r12
  cond v13
  (k_ret (0 : Int) (0 : Int) (0 : Int) (2 : Int))
  (let v14 := IntKind.i64.wrap (x.f19 + (1 : Int))
  rec ⟨x.f1, v8, x.f17, x.f18, v14⟩))) none) none)
  (k_exit_0)
noncomputable def S40_5 (x : X40_5) : St := St.ofList [(1, (.v (.int .i64) .s x.f1)), (8, (.v (.int .u64) .s x.f8)), (17, (.v (.sl 5 (.int .u8)) .s x.f17)), (18, (.v (.int .i64) .s x.f18)), (19, (.v (.int .i64) .s x.f19))]
def out40_5 : Ex → List Nat | .ret => [4, 5, 6, 7] | (.exit 0) => [] | _ => []
noncomputable def fuel40_5 (x : X40_5) : Nat := fuel64
noncomputable def lp40 : Loops := fun i R st K => match i with
  | 5 => match st 1, st 8, st 17, st 18, st 19 with
    | (.v (.int .i64) .s y1), (.v (.int .u64) .s y8), (.v (.sl 5 (.int .u8)) .s y17), (.v (.int .i64) .s y18), (.v (.int .i64) .s y19) => loopN (B40_5 (fun e4 e5 e6 e7 => K .ret (St.ofList [(4, (.v (.int .u64) .s e4)), (5, (.v (.int .u8) .s e5)), (6, (.v (.int .i64) .s e6)), (7, (.v (.int .i64) .s e7))])) (K (.exit 0) (St.ofList []))) (fuel40_5 ⟨y1, y8, y17, y18, y19⟩) ⟨y1, y8, y17, y18, y19⟩
    | _, _, _, _, _ => none
  | _ => none
noncomputable def c40_5 : Code := match loopAt 5 (body Try.f40.body) with | some c => c | none => .skip
theorem step40_5 (R : Type) (K : Ex → St → Option R) (rec : St → Option R) (x : X40_5) : evC (envOf gam40 Try.f40.ntmps fz40) lp40 c40_5 (S40_5 x) (fun e st => match e with | .normal => rec (st.only [1, 8, 17, 18, 19]) | e => K e (st.only (out40_5 e))) = B40_5 (fun e4 e5 e6 e7 => K .ret (St.ofList [(4, (.v (.int .u64) .s e4)), (5, (.v (.int .u8) .s e5)), (6, (.v (.int .i64) .s e6)), (7, (.v (.int .i64) .s e7))])) (K (.exit 0) (St.ofList [])) (fun x => rec (S40_5 x)) x := by kernel_rfl
theorem ok40_5 : LoopOk (envOf gam40 Try.f40.ntmps fz40) lp40 c40_5 := by
  refine loopOk_of (hd := [1, 8, 17, 18, 19]) (out := out40_5) (S := S40_5) (fun _ K => B40_5 (fun e4 e5 e6 e7 => K .ret (St.ofList [(4, (.v (.int .u64) .s e4)), (5, (.v (.int .u8) .s e5)), (6, (.v (.int .i64) .s e6)), (7, (.v (.int .i64) .s e7))])) (K (.exit 0) (St.ofList []))) fuel40_5 5 step40_5 (fun x => by kernel_rfl) (by kernel_rfl) ?_
  intro R st K r h
  unfold lp40 at h
  simp only at h
  split at h
  · rename_i y1 y8 y17 y18 y19 h1 h8 h17 h18 h19
    refine ⟨⟨y1, y8, y17, y18, y19⟩, ?_, h⟩
    show St.ofList [(1, st 1), (8, st 8), (17, st 17), (18, st 18), (19, st 19)] = _
    rw [h1, h8, h17, h18, h19]
    rfl
  · cases h
noncomputable def p40 {R : Type} (a0 : List (Int)) (a1 : Int) (K : Int → Int → Int → Int → Option R) : Option R :=
  let v1 := decide (a1 < (1 : Int))
  cond v1
  (K (0 : Int) (0 : Int) (0 : Int) (5 : Int))
  (let v2 := decide (a1 > (64 : Int))
  cond v2
  (K (0 : Int) (0 : Int) (0 : Int) (5 : Int))
  (let v3 := ((List.length a0 : Nat) : Int)
  loopN (B40_5 (fun w4 w5 w6 w7 => K w4 w5 w6 w7) (K (0 : Int) (0 : Int) (0 : Int) (1 : Int))) (fuel40_5 ⟨a1, (0 : Int), a0, v3, (0 : Int)⟩) ⟨a1, (0 : Int), a0, v3, (0 : Int)⟩))
noncomputable def cs40 : CSpec := { ins := [(.val (.sl 5 (.int .u8)) .s), (.val (.int .i64) .s)], outs := [((.int .u64), .s), ((.int .u8), .s), ((.int .i64), .s), ((.int .i64), .s)], fn := fun (d : (List (Int)) × Int × Unit) K => p40 d.1 d.2.1 fun r0 r1 r2 r3 => K ((r0, r1, r2, r3, ()) : Int × Int × Int × Int × Unit) () }
theorem h40 : Holds Try.prog 40 cs40 := by
  refine holds_of (env := envOf gam40 Try.f40.ntmps fz40) (fn := Try.f40) (code := body Try.f40.body) (rs := [4, 5, 6, 7]) (lp := lp40) mixed (envTyOk _ _ _) gamOk40 Try.func40 (by kernel_rfl) (by kernel_rfl) (by kernel_rfl) (by kernel_rfl) (by kernel_rfl) (loopsOk_of fun c hc => ?_) () ?_
  · rw [show loopsL (body Try.f40.body) = [c40_5] by kernel_rfl] at hc
    simp only [List.mem_cons, List.not_mem_nil, or_false] at hc
    rcases hc with rfl
    · exact ok40_5
  intro d R K res h
  have : evC (envOf gam40 Try.f40.ntmps fz40) lp40 (body Try.f40.body) (St.args (initS cs40.ins d)) (retK (envOf gam40 Try.f40.ntmps fz40) cs40.outs [4, 5, 6, 7] fun r => K r ()) = cs40.fn d K := by kernel_rfl
  rw [this]; exact h
-- f32 trammel/leb.U
noncomputable def fz32 : Nat → Bool
  | _ => false
noncomputable def gam32 : FuncId → Option CSpec
  | 40 => some cs40
  | _ => none
theorem gamOk32 : EnvFn Try.prog (envOf gam32 Try.f32.ntmps fz32) := by
  intro f c h
  unfold envOf gam32 at h
  simp only at h
  split at h <;> first | (cases h; done) | (cases h; exact h40)
noncomputable def p32 {R : Type} (a0 : List (Int)) (a1 : Int) (K : Int → Int → Int → Option R) : Option R :=
  p40 a0 a1 fun r1 r2 r3 r4 =>
  let v5 := r4 != (0 : Int)
  cond v5
  (K (0 : Int) (0 : Int) r4)
  (let v6 := IntKind.i64.wrap (r3 - (1 : Int))
  let v7 := IntKind.i64.wrap ((7 : Int) * v6)
  let v8 := IntKind.i64.wrap (a1 - v7)
  let v9 := decide (v8 < (7 : Int))
  cond v9
  (let v10 := IntKind.u64.wrap v8
  cond (decide (0 ≤ v10))
  (let v11 := shrI .u8 r2 v10
  let v12 := v11 != (0 : Int)
  cond v12
  (K (0 : Int) (0 : Int) (2 : Int))
  (K r1 r3 (0 : Int))) none)
  (K r1 r3 (0 : Int)))
noncomputable def cs32 : CSpec := { ins := [(.val (.sl 5 (.int .u8)) .s), (.val (.int .i64) .s)], outs := [((.int .u64), .s), ((.int .i64), .s), ((.int .i64), .s)], fn := fun (d : (List (Int)) × Int × Unit) K => p32 d.1 d.2.1 fun r0 r1 r2 => K ((r0, r1, r2, ()) : Int × Int × Int × Unit) () }
theorem h32 : Holds Try.prog 32 cs32 := by
  refine holds_of (env := envOf gam32 Try.f32.ntmps fz32) (fn := Try.f32) (code := body Try.f32.body) (rs := [4, 5, 6]) (lp := lp0) mixed (envTyOk _ _ _) gamOk32 Try.func32 (by kernel_rfl) (by kernel_rfl) (by kernel_rfl) (by kernel_rfl) (by kernel_rfl) (loopsOk_none (by kernel_rfl)) () ?_
  intro d R K res h
  have : evC (envOf gam32 Try.f32.ntmps fz32) lp0 (body Try.f32.body) (St.args (initS cs32.ins d)) (retK (envOf gam32 Try.f32.ntmps fz32) cs32.outs [4, 5, 6] fun r => K r ()) = cs32.fn d K := by kernel_rfl
  rw [this]; exact h
-- f27 trammel/utf.tail
noncomputable def fz27 : Nat → Bool
  | _ => false
noncomputable def gam27 : FuncId → Option CSpec
  | _ => none
theorem gamOk27 : EnvFn Try.prog (envOf gam27 Try.f27.ntmps fz27) := by
  intro f c h
  unfold envOf gam27 at h
  simp only at h
  cases h
noncomputable def p27 {R : Type} (a0 : Int) (K : Int → Int → Int → Bool → Option R) : Option R :=
  let v1 := decide (a0 < (128 : Int))
  cond v1
  (K (0 : Int) (0 : Int) (0 : Int) true)
  (let v2 := decide (a0 ≥ (194 : Int))
  cond v2
  (let v3 := decide (a0 ≤ (223 : Int))
  cond v3
  (K (1 : Int) (128 : Int) (191 : Int) true)
  (let v4 := a0 == (224 : Int)
  cond v4
  (K (2 : Int) (160 : Int) (191 : Int) true)
  (let v5 := a0 == (237 : Int)
  cond v5
  (K (2 : Int) (128 : Int) (159 : Int) true)
  (let v6 := decide (a0 ≥ (225 : Int))
  cond v6
  (let v7 := decide (a0 ≤ (239 : Int))
  cond v7
  (K (2 : Int) (128 : Int) (191 : Int) true)
  (let v8 := a0 == (240 : Int)
  cond v8
  (K (3 : Int) (144 : Int) (191 : Int) true)
  (let v9 := a0 == (244 : Int)
  cond v9
  (K (3 : Int) (128 : Int) (143 : Int) true)
  (let v10 := decide (a0 ≥ (241 : Int))
  cond v10
  (let v11 := decide (a0 ≤ (243 : Int))
  cond v11
  (K (3 : Int) (128 : Int) (191 : Int) true)
  (K (0 : Int) (0 : Int) (0 : Int) false))
  (K (0 : Int) (0 : Int) (0 : Int) false)))))
  (let v12 := a0 == (240 : Int)
  cond v12
  (K (3 : Int) (144 : Int) (191 : Int) true)
  (let v13 := a0 == (244 : Int)
  cond v13
  (K (3 : Int) (128 : Int) (143 : Int) true)
  (let v14 := decide (a0 ≥ (241 : Int))
  cond v14
  (let v15 := decide (a0 ≤ (243 : Int))
  cond v15
  (K (3 : Int) (128 : Int) (191 : Int) true)
  (K (0 : Int) (0 : Int) (0 : Int) false))
  (K (0 : Int) (0 : Int) (0 : Int) false))))))))
  (let v16 := a0 == (224 : Int)
  cond v16
  (K (2 : Int) (160 : Int) (191 : Int) true)
  (let v17 := a0 == (237 : Int)
  cond v17
  (K (2 : Int) (128 : Int) (159 : Int) true)
  (let v18 := decide (a0 ≥ (225 : Int))
  cond v18
  (let v19 := decide (a0 ≤ (239 : Int))
  cond v19
  (K (2 : Int) (128 : Int) (191 : Int) true)
  (let v20 := a0 == (240 : Int)
  cond v20
  (K (3 : Int) (144 : Int) (191 : Int) true)
  (let v21 := a0 == (244 : Int)
  cond v21
  (K (3 : Int) (128 : Int) (143 : Int) true)
  (let v22 := decide (a0 ≥ (241 : Int))
  cond v22
  (let v23 := decide (a0 ≤ (243 : Int))
  cond v23
  (K (3 : Int) (128 : Int) (191 : Int) true)
  (K (0 : Int) (0 : Int) (0 : Int) false))
  (K (0 : Int) (0 : Int) (0 : Int) false)))))
  (let v24 := a0 == (240 : Int)
  cond v24
  (K (3 : Int) (144 : Int) (191 : Int) true)
  (let v25 := a0 == (244 : Int)
  cond v25
  (K (3 : Int) (128 : Int) (143 : Int) true)
  (let v26 := decide (a0 ≥ (241 : Int))
  cond v26
  (let v27 := decide (a0 ≤ (243 : Int))
  cond v27
  (K (3 : Int) (128 : Int) (191 : Int) true)
  (K (0 : Int) (0 : Int) (0 : Int) false))
  (K (0 : Int) (0 : Int) (0 : Int) false))))))))
noncomputable def cs27 : CSpec := { ins := [(.val (.int .u8) .s)], outs := [((.int .i64), .s), ((.int .u8), .s), ((.int .u8), .s), (.bool, .s)], fn := fun (d : Int × Unit) K => p27 d.1 fun r0 r1 r2 r3 => K ((r0, r1, r2, r3, ()) : Int × Int × Int × Bool × Unit) () }
theorem h27 : Holds Try.prog 27 cs27 := by
  refine holds_of (env := envOf gam27 Try.f27.ntmps fz27) (fn := Try.f27) (code := body Try.f27.body) (rs := [2, 3, 4, 5]) (lp := lp0) mixed (envTyOk _ _ _) gamOk27 Try.func27 (by kernel_rfl) (by kernel_rfl) (by kernel_rfl) (by kernel_rfl) (by kernel_rfl) (loopsOk_none (by kernel_rfl)) () ?_
  intro d R K res h
  have : evC (envOf gam27 Try.f27.ntmps fz27) lp0 (body Try.f27.body) (St.args (initS cs27.ins d)) (retK (envOf gam27 Try.f27.ntmps fz27) cs27.outs [2, 3, 4, 5] fun r => K r ()) = cs27.fn d K := by kernel_rfl
  rw [this]; exact h
-- f11 trammel/utf.Valid
noncomputable def fz11 : Nat → Bool
  | _ => false
noncomputable def gam11 : FuncId → Option CSpec
  | 27 => some cs27
  | _ => none
theorem gamOk11 : EnvFn Try.prog (envOf gam11 Try.f11.ntmps fz11) := by
  intro f c h
  unfold envOf gam11 at h
  simp only at h
  split at h <;> first | (cases h; done) | (cases h; exact h27)
structure X11_7 where
  f0 : List UInt8
  f3 : Int
  f4 : Int
  f5 : Int
  f6 : Int
  f8 : Int
  f26 : Int
  f27 : List UInt8
  f28 : Int
  f29 : Int
  f30 : Int
  f31 : Int
  f32 : Bool

noncomputable def B11_7 {R : Type} (k_ret : Bool → Option R) (k_exit_2 : (List UInt8) → Int → Int → Int → (List UInt8) → Int → Int → Int → Int → Bool → Option R) (rec : X11_7 → Option R) (x : X11_7) : Option R :=
  let v1 := decide (x.f8 ≤ x.f4)
  cond v1
  (let v2 := IntKind.i64.wrap (x.f3 + x.f8)
  cond (inB v2 (List.length x.f0))
  (let v3 := bt x.f0 v2
  let v4 := decide (v3 < x.f5)
  cond v4
  (k_ret false)
  (let v5 := decide (v3 > x.f6)
  cond v5
  (k_ret false)
  (let v6 := IntKind.i64.wrap (x.f8 + (1 : Int))
  rec ⟨x.f0, x.f3, x.f4, (128 : Int), (191 : Int), v6, x.f26, x.f27, x.f28, x.f29, x.f30, x.f31, x.f32⟩))) none)
  (k_exit_2 x.f0 x.f3 x.f4 x.f26 x.f27 x.f28 x.f29 x.f30 x.f31 x.f32)
noncomputable def S11_7 (x : X11_7) : St := St.ofList [(0, (.v .str .s x.f0)), (3, (.v (.int .i64) .s x.f3)), (4, (.v (.int .i64) .s x.f4)), (5, (.v (.int .u8) .s x.f5)), (6, (.v (.int .u8) .s x.f6)), (8, (.v (.int .i64) .s x.f8)), (26, (.v (.int .i64) .s x.f26)), (27, (.v .str .s x.f27)), (28, (.v (.int .i64) .s x.f28)), (29, (.v (.int .i64) .s x.f29)), (30, (.v (.int .i64) .s x.f30)), (31, (.v (.int .i64) .s x.f31)), (32, (.v .bool .s x.f32))]
def out11_7 : Ex → List Nat | .ret => [2] | (.exit 2) => [0, 3, 4, 26, 27, 28, 29, 30, 31, 32] | _ => []
noncomputable def fuel11_7 (x : X11_7) : Nat := fuel64
structure X11_2 where
  f0 : List UInt8
  f3 : Int

noncomputable def B11_2 {R : Type} (k_ret : Bool → Option R) (k_exit_0 : Option R) (rec : X11_2 → Option R) (x : X11_2) : Option R :=
  let v1 := ((List.length x.f0 : Nat) : Int)
  let v2 := decide (x.f3 < v1)
  cond v2
  (cond (inB x.f3 (List.length x.f0))
  (let v3 := bt x.f0 x.f3
  p27 v3 fun r4 r5 r6 r7 =>
  let v8 := !r7
  cond v8
  (k_ret false)
  (let v9 := ((List.length x.f0 : Nat) : Int)
  let v10 := IntKind.i64.wrap (v9 - x.f3)
  let v11 := IntKind.i64.wrap (v10 - (1 : Int))
  let v12 := decide (r4 > v11)
  cond v12
  (k_ret false)
  (loopN (B11_7 (fun w13 => k_ret w13) (fun w14 w15 w16 w17 w18 w19 w20 w21 w22 w23 => let v24 := IntKind.i64.wrap ((1 : Int) + w16)
  let v25 := IntKind.i64.wrap (w15 + v24)
  rec ⟨w14, v25⟩)) (fuel11_7 ⟨x.f0, x.f3, r4, r5, r6, (1 : Int), r4, x.f0, v9, x.f3, v10, v11, v12⟩) ⟨x.f0, x.f3, r4, r5, r6, (1 : Int), r4, x.f0, v9, x.f3, v10, v11, v12⟩))) none)
  (k_exit_0)
noncomputable def S11_2 (x : X11_2) : St := St.ofList [(0, (.v .str .s x.f0)), (3, (.v (.int .i64) .s x.f3))]
def out11_2 : Ex → List Nat | .ret => [2] | (.exit 0) => [] | _ => []
noncomputable def fuel11_2 (x : X11_2) : Nat := fuel64
noncomputable def lp11 : Loops := fun i R st K => match i with
  | 7 => match st 0, st 3, st 4, st 5, st 6, st 8, st 26, st 27, st 28, st 29, st 30, st 31, st 32 with
    | (.v .str .s y0), (.v (.int .i64) .s y3), (.v (.int .i64) .s y4), (.v (.int .u8) .s y5), (.v (.int .u8) .s y6), (.v (.int .i64) .s y8), (.v (.int .i64) .s y26), (.v .str .s y27), (.v (.int .i64) .s y28), (.v (.int .i64) .s y29), (.v (.int .i64) .s y30), (.v (.int .i64) .s y31), (.v .bool .s y32) => loopN (B11_7 (fun e2 => K .ret (St.ofList [(2, (.v .bool .s e2))])) (fun e0 e3 e4 e26 e27 e28 e29 e30 e31 e32 => K (.exit 2) (St.ofList [(0, (.v .str .s e0)), (3, (.v (.int .i64) .s e3)), (4, (.v (.int .i64) .s e4)), (26, (.v (.int .i64) .s e26)), (27, (.v .str .s e27)), (28, (.v (.int .i64) .s e28)), (29, (.v (.int .i64) .s e29)), (30, (.v (.int .i64) .s e30)), (31, (.v (.int .i64) .s e31)), (32, (.v .bool .s e32))]))) (fuel11_7 ⟨y0, y3, y4, y5, y6, y8, y26, y27, y28, y29, y30, y31, y32⟩) ⟨y0, y3, y4, y5, y6, y8, y26, y27, y28, y29, y30, y31, y32⟩
    | _, _, _, _, _, _, _, _, _, _, _, _, _ => none
  | 2 => match st 0, st 3 with
    | (.v .str .s y0), (.v (.int .i64) .s y3) => loopN (B11_2 (fun e2 => K .ret (St.ofList [(2, (.v .bool .s e2))])) (K (.exit 0) (St.ofList []))) (fuel11_2 ⟨y0, y3⟩) ⟨y0, y3⟩
    | _, _ => none
  | _ => none
noncomputable def c11_7 : Code := match loopAt 7 (body Try.f11.body) with | some c => c | none => .skip
theorem step11_7 (R : Type) (K : Ex → St → Option R) (rec : St → Option R) (x : X11_7) : evC (envOf gam11 Try.f11.ntmps fz11) lp11 c11_7 (S11_7 x) (fun e st => match e with | .normal => rec (st.only [0, 3, 4, 5, 6, 8, 26, 27, 28, 29, 30, 31, 32]) | e => K e (st.only (out11_7 e))) = B11_7 (fun e2 => K .ret (St.ofList [(2, (.v .bool .s e2))])) (fun e0 e3 e4 e26 e27 e28 e29 e30 e31 e32 => K (.exit 2) (St.ofList [(0, (.v .str .s e0)), (3, (.v (.int .i64) .s e3)), (4, (.v (.int .i64) .s e4)), (26, (.v (.int .i64) .s e26)), (27, (.v .str .s e27)), (28, (.v (.int .i64) .s e28)), (29, (.v (.int .i64) .s e29)), (30, (.v (.int .i64) .s e30)), (31, (.v (.int .i64) .s e31)), (32, (.v .bool .s e32))])) (fun x => rec (S11_7 x)) x := by kernel_rfl
theorem ok11_7 : LoopOk (envOf gam11 Try.f11.ntmps fz11) lp11 c11_7 := by
  refine loopOk_of (hd := [0, 3, 4, 5, 6, 8, 26, 27, 28, 29, 30, 31, 32]) (out := out11_7) (S := S11_7) (fun _ K => B11_7 (fun e2 => K .ret (St.ofList [(2, (.v .bool .s e2))])) (fun e0 e3 e4 e26 e27 e28 e29 e30 e31 e32 => K (.exit 2) (St.ofList [(0, (.v .str .s e0)), (3, (.v (.int .i64) .s e3)), (4, (.v (.int .i64) .s e4)), (26, (.v (.int .i64) .s e26)), (27, (.v .str .s e27)), (28, (.v (.int .i64) .s e28)), (29, (.v (.int .i64) .s e29)), (30, (.v (.int .i64) .s e30)), (31, (.v (.int .i64) .s e31)), (32, (.v .bool .s e32))]))) fuel11_7 7 step11_7 (fun x => by kernel_rfl) (by kernel_rfl) ?_
  intro R st K r h
  unfold lp11 at h
  simp only at h
  split at h
  · rename_i y0 y3 y4 y5 y6 y8 y26 y27 y28 y29 y30 y31 y32 h0 h3 h4 h5 h6 h8 h26 h27 h28 h29 h30 h31 h32
    refine ⟨⟨y0, y3, y4, y5, y6, y8, y26, y27, y28, y29, y30, y31, y32⟩, ?_, h⟩
    show St.ofList [(0, st 0), (3, st 3), (4, st 4), (5, st 5), (6, st 6), (8, st 8), (26, st 26), (27, st 27), (28, st 28), (29, st 29), (30, st 30), (31, st 31), (32, st 32)] = _
    rw [h0, h3, h4, h5, h6, h8, h26, h27, h28, h29, h30, h31, h32]
    rfl
  · cases h
noncomputable def c11_2 : Code := match loopAt 2 (body Try.f11.body) with | some c => c | none => .skip
theorem step11_2 (R : Type) (K : Ex → St → Option R) (rec : St → Option R) (x : X11_2) : evC (envOf gam11 Try.f11.ntmps fz11) lp11 c11_2 (S11_2 x) (fun e st => match e with | .normal => rec (st.only [0, 3]) | e => K e (st.only (out11_2 e))) = B11_2 (fun e2 => K .ret (St.ofList [(2, (.v .bool .s e2))])) (K (.exit 0) (St.ofList [])) (fun x => rec (S11_2 x)) x := by kernel_rfl
theorem ok11_2 : LoopOk (envOf gam11 Try.f11.ntmps fz11) lp11 c11_2 := by
  refine loopOk_of (hd := [0, 3]) (out := out11_2) (S := S11_2) (fun _ K => B11_2 (fun e2 => K .ret (St.ofList [(2, (.v .bool .s e2))])) (K (.exit 0) (St.ofList []))) fuel11_2 2 step11_2 (fun x => by kernel_rfl) (by kernel_rfl) ?_
  intro R st K r h
  unfold lp11 at h
  simp only at h
  split at h
  · rename_i y0 y3 h0 h3
    refine ⟨⟨y0, y3⟩, ?_, h⟩
    show St.ofList [(0, st 0), (3, st 3)] = _
    rw [h0, h3]
    rfl
  · cases h
noncomputable def p11 {R : Type} (a0 : List UInt8) (K : Bool → Option R) : Option R :=
  loopN (B11_2 (fun w1 => K w1) (K true)) (fuel11_2 ⟨a0, (0 : Int)⟩) ⟨a0, (0 : Int)⟩
noncomputable def cs11 : CSpec := { ins := [(.val .str .s)], outs := [(.bool, .s)], fn := fun (d : (List UInt8) × Unit) K => p11 d.1 fun r0 => K ((r0, ()) : Bool × Unit) () }
theorem h11 : Holds Try.prog 11 cs11 := by
  refine holds_of (env := envOf gam11 Try.f11.ntmps fz11) (fn := Try.f11) (code := body Try.f11.body) (rs := [2]) (lp := lp11) mixed (envTyOk _ _ _) gamOk11 Try.func11 (by kernel_rfl) (by kernel_rfl) (by kernel_rfl) (by kernel_rfl) (by kernel_rfl) (loopsOk_of fun c hc => ?_) () ?_
  · rw [show loopsL (body Try.f11.body) = [c11_2, c11_7] by kernel_rfl] at hc
    simp only [List.mem_cons, List.not_mem_nil, or_false] at hc
    rcases hc with rfl | rfl
    · exact ok11_2
    · exact ok11_7
  intro d R K res h
  have : evC (envOf gam11 Try.f11.ntmps fz11) lp11 (body Try.f11.body) (St.args (initS cs11.ins d)) (retK (envOf gam11 Try.f11.ntmps fz11) cs11.outs [2] fun r => K r ()) = cs11.fn d K := by kernel_rfl
  rw [this]; exact h
-- f22 trammel/utf.Name
noncomputable def fz22 : Nat → Bool
  | _ => false
noncomputable def gam22 : FuncId → Option CSpec
  | 11 => some cs11
  | 32 => some cs32
  | _ => none
theorem gamOk22 : EnvFn Try.prog (envOf gam22 Try.f22.ntmps fz22) := by
  intro f c h
  unfold envOf gam22 at h
  simp only at h
  split at h <;> first | (cases h; done) | (cases h; exact h11) | (cases h; exact h32)
noncomputable def p22 {R : Type} (a0 : List (Int)) (K : (List UInt8) → Int → Int → Option R) : Option R :=
  p32 a0 (32 : Int) fun r1 r2 r3 =>
  let v4 := r3 != (0 : Int)
  cond v4
  (K ([] : List UInt8) (0 : Int) r3)
  (let v5 := ((List.length a0 : Nat) : Int)
  let v6 := IntKind.i64.wrap (v5 - r2)
  let v7 := IntKind.u64.wrap v6
  let v8 := decide (r1 > v7)
  cond v8
  (K ([] : List UInt8) (0 : Int) (1 : Int))
  (let v9 := IntKind.i64.wrap r1
  let v10 := IntKind.i64.wrap (r2 + v9)
  cond (inR r2 v10 (List.length a0))
  (let v11 := rng a0 r2 v10
  let v12 := u8s v11
  p11 v12 fun r13 =>
  let v14 := !r13
  cond v14
  (K ([] : List UInt8) (0 : Int) (2 : Int))
  (let v15 := ((List.length v12 : Nat) : Int)
  let v16 := decide (v15 > (64 : Int))
  cond v16
  (K ([] : List UInt8) (0 : Int) (4 : Int))
  (let v17 := ((List.length v12 : Nat) : Int)
  let v18 := IntKind.i64.wrap (r2 + v17)
  K v12 v18 (0 : Int)))) none))
noncomputable def cs22 : CSpec := { ins := [(.val (.sl 5 (.int .u8)) .s)], outs := [(.str, .s), ((.int .i64), .s), ((.int .i64), .s)], fn := fun (d : (List (Int)) × Unit) K => p22 d.1 fun r0 r1 r2 => K ((r0, r1, r2, ()) : (List UInt8) × Int × Int × Unit) () }
theorem h22 : Holds Try.prog 22 cs22 := by
  refine holds_of (env := envOf gam22 Try.f22.ntmps fz22) (fn := Try.f22) (code := body Try.f22.body) (rs := [2, 3, 4]) (lp := lp0) mixed (envTyOk _ _ _) gamOk22 Try.func22 (by kernel_rfl) (by kernel_rfl) (by kernel_rfl) (by kernel_rfl) (by kernel_rfl) (loopsOk_none (by kernel_rfl)) () ?_
  intro d R K res h
  have : evC (envOf gam22 Try.f22.ntmps fz22) lp0 (body Try.f22.body) (St.args (initS cs22.ins d)) (retK (envOf gam22 Try.f22.ntmps fz22) cs22.outs [2, 3, 4] fun r => K r ()) = cs22.fn d K := by kernel_rfl
  rw [this]; exact h
-- f10 trammel/trammellaw02.awake
noncomputable def fz10 : Nat → Bool
  | _ => false
noncomputable def gam10 : FuncId → Option CSpec
  | 11 => some cs11
  | 22 => some cs22
  | _ => none
theorem gamOk10 : EnvFn Try.prog (envOf gam10 Try.f10.ntmps fz10) := by
  intro f c h
  unfold envOf gam10 at h
  simp only at h
  split at h <;> first | (cases h; done) | (cases h; exact h11) | (cases h; exact h22)
noncomputable def p10 {R : Type}  (K : Bool → Option R) : Option R :=
  let v1 := List.set (List.set (List.set (List.set (List.replicate 4 (0 : Int)) 0 (2 : Int)) 1 (195 : Int)) 2 (169 : Int)) 3 (7 : Int)
  p22 v1 fun r2 r3 r4 =>
  let v5 := r4 == (0 : Int)
  cond v5
  (let v6 := r2 == ([195, 169] : List UInt8)
  cond v6
  (let v7 := r3 == (3 : Int)
  cond v7
  (p11 ([97] : List UInt8) fun r8 =>
  cond r8
  (p11 ([192, 128] : List UInt8) fun r9 =>
  let v10 := !r9
  K v10)
  (K false))
  (K false))
  (K false))
  (K false)
noncomputable def cs10 : CSpec := { ins := [], outs := [(.bool, .s)], fn := fun (d : Unit) K => p10  fun r0 => K ((r0, ()) : Bool × Unit) () }
theorem h10 : Holds Try.prog 10 cs10 := by
  refine holds_of (env := envOf gam10 Try.f10.ntmps fz10) (fn := Try.f10) (code := body Try.f10.body) (rs := [0]) (lp := lp0) mixed (envTyOk _ _ _) gamOk10 Try.func10 (by kernel_rfl) (by kernel_rfl) (by kernel_rfl) (by kernel_rfl) (by kernel_rfl) (loopsOk_none (by kernel_rfl)) () ?_
  intro d R K res h
  have : evC (envOf gam10 Try.f10.ntmps fz10) lp0 (body Try.f10.body) (St.args (initS cs10.ins d)) (retK (envOf gam10 Try.f10.ntmps fz10) cs10.outs [0] fun r => K r ()) = cs10.fn d K := by kernel_rfl
  rw [this]; exact h
-- f28 trammel/trammelref02.size
noncomputable def fz28 : Nat → Bool
  | _ => false
noncomputable def gam28 : FuncId → Option CSpec
  | _ => none
theorem gamOk28 : EnvFn Try.prog (envOf gam28 Try.f28.ntmps fz28) := by
  intro f c h
  unfold envOf gam28 at h
  simp only at h
  cases h
noncomputable def p28 {R : Type} (a0 : Int) (K : Int → Option R) : Option R :=
  let v1 := decide (a0 < (128 : Int))
  cond v1
  (K (1 : Int))
  (let v2 := decide (a0 ≥ (192 : Int))
  cond v2
  (let v3 := decide (a0 < (224 : Int))
  cond v3
  (K (2 : Int))
  (let v4 := decide (a0 ≥ (224 : Int))
  cond v4
  (let v5 := decide (a0 < (240 : Int))
  cond v5
  (K (3 : Int))
  (let v6 := decide (a0 ≥ (240 : Int))
  cond v6
  (let v7 := decide (a0 < (248 : Int))
  cond v7
  (K (4 : Int))
  (K (0 : Int)))
  (K (0 : Int))))
  (let v8 := decide (a0 ≥ (240 : Int))
  cond v8
  (let v9 := decide (a0 < (248 : Int))
  cond v9
  (K (4 : Int))
  (K (0 : Int)))
  (K (0 : Int)))))
  (let v10 := decide (a0 ≥ (224 : Int))
  cond v10
  (let v11 := decide (a0 < (240 : Int))
  cond v11
  (K (3 : Int))
  (let v12 := decide (a0 ≥ (240 : Int))
  cond v12
  (let v13 := decide (a0 < (248 : Int))
  cond v13
  (K (4 : Int))
  (K (0 : Int)))
  (K (0 : Int))))
  (let v14 := decide (a0 ≥ (240 : Int))
  cond v14
  (let v15 := decide (a0 < (248 : Int))
  cond v15
  (K (4 : Int))
  (K (0 : Int)))
  (K (0 : Int)))))
noncomputable def cs28 : CSpec := { ins := [(.val (.int .u8) .s)], outs := [((.int .i64), .s)], fn := fun (d : Int × Unit) K => p28 d.1 fun r0 => K ((r0, ()) : Int × Unit) () }
theorem h28 : Holds Try.prog 28 cs28 := by
  refine holds_of (env := envOf gam28 Try.f28.ntmps fz28) (fn := Try.f28) (code := body Try.f28.body) (rs := [2]) (lp := lp0) mixed (envTyOk _ _ _) gamOk28 Try.func28 (by kernel_rfl) (by kernel_rfl) (by kernel_rfl) (by kernel_rfl) (by kernel_rfl) (loopsOk_none (by kernel_rfl)) () ?_
  intro d R K res h
  have : evC (envOf gam28 Try.f28.ntmps fz28) lp0 (body Try.f28.body) (St.args (initS cs28.ins d)) (retK (envOf gam28 Try.f28.ntmps fz28) cs28.outs [2] fun r => K r ()) = cs28.fn d K := by kernel_rfl
  rw [this]; exact h
-- f29 trammel/trammelref02.form
noncomputable def fz29 : Nat → Bool
  | _ => false
noncomputable def gam29 : FuncId → Option CSpec
  | _ => none
theorem gamOk29 : EnvFn Try.prog (envOf gam29 Try.f29.ntmps fz29) := by
  intro f c h
  unfold envOf gam29 at h
  simp only at h
  cases h
noncomputable def p29 {R : Type} (a0 : Int) (K : (List (Int)) → Option R) : Option R :=
  let v1 := decide (a0 < (128 : Int))
  cond v1
  (let v2 := IntKind.u8.wrap a0
  let v3 := List.set (List.replicate 1 (0 : Int)) 0 v2
  K v3)
  (let v4 := decide (a0 < (2048 : Int))
  cond v4
  (cond ((64 : Int) != 0)
  (let v5 := IntKind.i64.wrap (Int.tdiv a0 (64 : Int))
  let v6 := IntKind.i64.wrap ((192 : Int) + v5)
  let v7 := IntKind.u8.wrap v6
  cond ((64 : Int) != 0)
  (let v8 := Int.tmod a0 (64 : Int)
  let v9 := IntKind.i64.wrap ((128 : Int) + v8)
  let v10 := IntKind.u8.wrap v9
  let v11 := List.set (List.set (List.replicate 2 (0 : Int)) 0 v7) 1 v10
  K v11) none) none)
  (let v12 := decide (a0 < (65536 : Int))
  cond v12
  (cond ((4096 : Int) != 0)
  (let v13 := IntKind.i64.wrap (Int.tdiv a0 (4096 : Int))
  let v14 := IntKind.i64.wrap ((224 : Int) + v13)
  let v15 := IntKind.u8.wrap v14
  cond ((64 : Int) != 0)
  (let v16 := IntKind.i64.wrap (Int.tdiv a0 (64 : Int))
  cond ((64 : Int) != 0)
  (let v17 := Int.tmod v16 (64 : Int)
  let v18 := IntKind.i64.wrap ((128 : Int) + v17)
  let v19 := IntKind.u8.wrap v18
  cond ((64 : Int) != 0)
  (let v20 := Int.tmod a0 (64 : Int)
  let v21 := IntKind.i64.wrap ((128 : Int) + v20)
  let v22 := IntKind.u8.wrap v21
  let v23 := List.set (List.set (List.set (List.replicate 3 (0 : Int)) 0 v15) 1 v19) 2 v22
  K v23) none) none) none) none)
  (cond ((262144 : Int) != 0)
  (let v24 := IntKind.i64.wrap (Int.tdiv a0 (262144 : Int))
  let v25 := IntKind.i64.wrap ((240 : Int) + v24)
  let v26 := IntKind.u8.wrap v25
  cond ((4096 : Int) != 0)
  (let v27 := IntKind.i64.wrap (Int.tdiv a0 (4096 : Int))
  cond ((64 : Int) != 0)
  (let v28 := Int.tmod v27 (64 : Int)
  let v29 := IntKind.i64.wrap ((128 : Int) + v28)
  let v30 := IntKind.u8.wrap v29
  cond ((64 : Int) != 0)
  (let v31 := IntKind.i64.wrap (Int.tdiv a0 (64 : Int))
  cond ((64 : Int) != 0)
  (let v32 := Int.tmod v31 (64 : Int)
  let v33 := IntKind.i64.wrap ((128 : Int) + v32)
  let v34 := IntKind.u8.wrap v33
  cond ((64 : Int) != 0)
  (let v35 := Int.tmod a0 (64 : Int)
  let v36 := IntKind.i64.wrap ((128 : Int) + v35)
  let v37 := IntKind.u8.wrap v36
  let v38 := List.set (List.set (List.set (List.set (List.replicate 4 (0 : Int)) 0 v26) 1 v30) 2 v34) 3 v37
  K v38) none) none) none) none) none) none)))
noncomputable def cs29 : CSpec := { ins := [(.val (.int .i64) .s)], outs := [((.sl 5 (.int .u8)), (.o .s))], fn := fun (d : Int × Unit) K => p29 d.1 fun r0 => K ((r0, ()) : (List (Int)) × Unit) () }
theorem h29 : Holds Try.prog 29 cs29 := by
  refine holds_of (env := envOf gam29 Try.f29.ntmps fz29) (fn := Try.f29) (code := body Try.f29.body) (rs := [2]) (lp := lp0) mixed (envTyOk _ _ _) gamOk29 Try.func29 (by kernel_rfl) (by kernel_rfl) (by kernel_rfl) (by kernel_rfl) (by kernel_rfl) (loopsOk_none (by kernel_rfl)) () ?_
  intro d R K res h
  have : evC (envOf gam29 Try.f29.ntmps fz29) lp0 (body Try.f29.body) (St.args (initS cs29.ins d)) (retK (envOf gam29 Try.f29.ntmps fz29) cs29.outs [2] fun r => K r ()) = cs29.fn d K := by kernel_rfl
  rw [this]; exact h
-- f21 trammel/trammelref01.Same
noncomputable def fz21 : Nat → Bool
  | _ => false
noncomputable def gam21 : FuncId → Option CSpec
  | _ => none
theorem gamOk21 : EnvFn Try.prog (envOf gam21 Try.f21.ntmps fz21) := by
  intro f c h
  unfold envOf gam21 at h
  simp only at h
  cases h
structure X21_4 where
  f0 : List (Int)
  f1 : List (Int)
  f5 : Int

noncomputable def B21_4 {R : Type} (k_ret : Bool → Option R) (k_exit_0 : Option R) (rec : X21_4 → Option R) (x : X21_4) : Option R :=
  let v1 := ((List.length x.f0 : Nat) : Int)
  let v2 := decide (x.f5 < v1)
  cond v2
  (cond (inB x.f5 (List.length x.f0))
  (let v3 := List.getD x.f0 x.f5.toNat (0 : Int)
  cond (inB x.f5 (List.length x.f1))
  (let v4 := List.getD x.f1 x.f5.toNat (0 : Int)
  let v5 := v3 != v4
  cond v5
  (k_ret false)
  (let v6 := IntKind.i64.wrap (x.f5 + (1 : Int))
  rec ⟨x.f0, x.f1, v6⟩)) none) none)
  (k_exit_0)
noncomputable def S21_4 (x : X21_4) : St := St.ofList [(0, (.v (.sl 5 (.int .u8)) .s x.f0)), (1, (.v (.sl 5 (.int .u8)) .s x.f1)), (5, (.v (.int .i64) .s x.f5))]
def out21_4 : Ex → List Nat | .ret => [4] | (.exit 0) => [] | _ => []
noncomputable def fuel21_4 (x : X21_4) : Nat := fuel64
noncomputable def lp21 : Loops := fun i R st K => match i with
  | 4 => match st 0, st 1, st 5 with
    | (.v (.sl 5 (.int .u8)) .s y0), (.v (.sl 5 (.int .u8)) .s y1), (.v (.int .i64) .s y5) => loopN (B21_4 (fun e4 => K .ret (St.ofList [(4, (.v .bool .s e4))])) (K (.exit 0) (St.ofList []))) (fuel21_4 ⟨y0, y1, y5⟩) ⟨y0, y1, y5⟩
    | _, _, _ => none
  | _ => none
noncomputable def c21_4 : Code := match loopAt 4 (body Try.f21.body) with | some c => c | none => .skip
theorem step21_4 (R : Type) (K : Ex → St → Option R) (rec : St → Option R) (x : X21_4) : evC (envOf gam21 Try.f21.ntmps fz21) lp21 c21_4 (S21_4 x) (fun e st => match e with | .normal => rec (st.only [0, 1, 5]) | e => K e (st.only (out21_4 e))) = B21_4 (fun e4 => K .ret (St.ofList [(4, (.v .bool .s e4))])) (K (.exit 0) (St.ofList [])) (fun x => rec (S21_4 x)) x := by kernel_rfl
theorem ok21_4 : LoopOk (envOf gam21 Try.f21.ntmps fz21) lp21 c21_4 := by
  refine loopOk_of (hd := [0, 1, 5]) (out := out21_4) (S := S21_4) (fun _ K => B21_4 (fun e4 => K .ret (St.ofList [(4, (.v .bool .s e4))])) (K (.exit 0) (St.ofList []))) fuel21_4 4 step21_4 (fun x => by kernel_rfl) (by kernel_rfl) ?_
  intro R st K r h
  unfold lp21 at h
  simp only at h
  split at h
  · rename_i y0 y1 y5 h0 h1 h5
    refine ⟨⟨y0, y1, y5⟩, ?_, h⟩
    show St.ofList [(0, st 0), (1, st 1), (5, st 5)] = _
    rw [h0, h1, h5]
    rfl
  · cases h
noncomputable def p21 {R : Type} (a0 : List (Int)) (a1 : List (Int)) (K : Bool → Option R) : Option R :=
  let v1 := ((List.length a0 : Nat) : Int)
  let v2 := ((List.length a1 : Nat) : Int)
  let v3 := v1 != v2
  cond v3
  (K false)
  (loopN (B21_4 (fun w4 => K w4) (K true)) (fuel21_4 ⟨a0, a1, (0 : Int)⟩) ⟨a0, a1, (0 : Int)⟩)
noncomputable def cs21 : CSpec := { ins := [(.val (.sl 5 (.int .u8)) .s), (.val (.sl 5 (.int .u8)) .s)], outs := [(.bool, .s)], fn := fun (d : (List (Int)) × (List (Int)) × Unit) K => p21 d.1 d.2.1 fun r0 => K ((r0, ()) : Bool × Unit) () }
theorem h21 : Holds Try.prog 21 cs21 := by
  refine holds_of (env := envOf gam21 Try.f21.ntmps fz21) (fn := Try.f21) (code := body Try.f21.body) (rs := [4]) (lp := lp21) mixed (envTyOk _ _ _) gamOk21 Try.func21 (by kernel_rfl) (by kernel_rfl) (by kernel_rfl) (by kernel_rfl) (by kernel_rfl) (loopsOk_of fun c hc => ?_) () ?_
  · rw [show loopsL (body Try.f21.body) = [c21_4] by kernel_rfl] at hc
    simp only [List.mem_cons, List.not_mem_nil, or_false] at hc
    rcases hc with rfl
    · exact ok21_4
  intro d R K res h
  have : evC (envOf gam21 Try.f21.ntmps fz21) lp21 (body Try.f21.body) (St.args (initS cs21.ins d)) (retK (envOf gam21 Try.f21.ntmps fz21) cs21.outs [4] fun r => K r ()) = cs21.fn d K := by kernel_rfl
  rw [this]; exact h
-- f12 trammel/trammelref02.Valid
noncomputable def fz12 : Nat → Bool
  | 3 => true
  | _ => false
noncomputable def gam12 : FuncId → Option CSpec
  | 21 => some cs21
  | 28 => some cs28
  | 29 => some cs29
  | _ => none
theorem gamOk12 : EnvFn Try.prog (envOf gam12 Try.f12.ntmps fz12) := by
  intro f c h
  unfold envOf gam12 at h
  simp only at h
  split at h <;> first | (cases h; done) | (cases h; exact h21) | (cases h; exact h28) | (cases h; exact h29)
structure X12_8 where
  f3 : List (Int)
  f4 : Int
  f5 : Int
  f6 : Int
  f19 : Int
  f20 : List (Int)
  f21 : Int
  f22 : Bool

noncomputable def B12_8 {R : Type} (k_exit_2 : (List (Int)) → Int → Int → Int → (List (Int)) → Int → Bool → Option R) (rec : X12_8 → Option R) (x : X12_8) : Option R :=
  let v1 := decide (x.f6 < x.f4)
  cond v1
  (let v2 := IntKind.i64.wrap (x.f5 * (64 : Int))
  cond (inB x.f6 (List.length x.f3))
  (let v3 := List.getD x.f3 x.f6.toNat (0 : Int)
  let v4 := IntKind.i64.wrap v3
  cond ((64 : Int) != 0)
  (let v5 := Int.tmod v4 (64 : Int)
  let v6 := IntKind.i64.wrap (v2 + v5)
  let v7 := IntKind.i64.wrap (x.f6 + (1 : Int))
  rec ⟨x.f3, x.f4, v6, v7, x.f19, x.f20, x.f21, x.f22⟩) none) none)
  (k_exit_2 x.f3 x.f4 x.f5 x.f19 x.f20 x.f21 x.f22)
noncomputable def S12_8 (x : X12_8) : St := St.ofList [(3, (.v (.sl 5 (.int .u8)) .s x.f3)), (4, (.v (.int .i64) .s x.f4)), (5, (.v (.int .i64) .s x.f5)), (6, (.v (.int .i64) .s x.f6)), (19, (.v (.int .i64) .s x.f19)), (20, (.v (.sl 5 (.int .u8)) .s x.f20)), (21, (.v (.int .i64) .s x.f21)), (22, (.v .bool .s x.f22))]
def out12_8 : Ex → List Nat | (.exit 2) => [3, 4, 5, 19, 20, 21, 22] | _ => []
noncomputable def fuel12_8 (x : X12_8) : Nat := fuel64
structure X12_2 where
  f3 : List (Int)

noncomputable def B12_2 {R : Type} (k_ret : Bool → Option R) (k_exit_0 : Option R) (rec : X12_2 → Option R) (x : X12_2) : Option R :=
  let v1 := ((List.length x.f3 : Nat) : Int)
  let v2 := decide (v1 > (0 : Int))
  cond v2
  (cond (inB (0 : Int) (List.length x.f3))
  (let v3 := List.getD x.f3 (0 : Int).toNat (0 : Int)
  p28 v3 fun r4 =>
  let v5 := r4 == (0 : Int)
  cond v5
  (k_ret false)
  (let v6 := ((List.length x.f3 : Nat) : Int)
  let v7 := decide (r4 > v6)
  cond v7
  (k_ret false)
  (cond (inB (0 : Int) (List.length x.f3))
  (let v8 := List.getD x.f3 (0 : Int).toNat (0 : Int)
  let v9 := List.set (List.set (List.set (List.set (List.set (List.replicate 5 (0 : Int)) 0 (0 : Int)) 1 (128 : Int)) 2 (32 : Int)) 3 (16 : Int)) 4 (8 : Int)
  cond (inB r4 5)
  (let v10 := List.getD v9 r4.toNat (0 : Int)
  let v11 := IntKind.i64.wrap v8
  cond (v10 != 0)
  (let v12 := Int.tmod v11 v10
  loopN (B12_8 (fun w13 w14 w15 w16 w17 w18 w19 => let v20 := decide (w15 > (1114111 : Int))
  cond v20
  (k_ret false)
  (let v21 := decide (w15 ≥ (55296 : Int))
  cond v21
  (let v22 := decide (w15 ≤ (57343 : Int))
  cond v22
  (k_ret false)
  (cond (inR (0 : Int) w14 (List.length w13))
  (let v23 := rng w13 (0 : Int) w14
  p29 w15 fun r24 =>
  p21 r24 v23 fun r25 =>
  let v26 := !r25
  cond v26
  (k_ret false)
  (cond (inR w14 ((List.length w13 : Nat) : Int) (List.length w13))
  (let v27 := rng w13 w14 ((List.length w13 : Nat) : Int)
  rec ⟨v27⟩) none)) none))
  (cond (inR (0 : Int) w14 (List.length w13))
  (let v28 := rng w13 (0 : Int) w14
  p29 w15 fun r29 =>
  p21 r29 v28 fun r30 =>
  let v31 := !r30
  cond v31
  (k_ret false)
  (cond (inR w14 ((List.length w13 : Nat) : Int) (List.length w13))
  (let v32 := rng w13 w14 ((List.length w13 : Nat) : Int)
  rec ⟨v32⟩) none)) none)))) (fuel12_8 ⟨x.f3, r4, v12, (1 : Int), r4, x.f3, v6, v7⟩) ⟨x.f3, r4, v12, (1 : Int), r4, x.f3, v6, v7⟩) none) none) none))) none)
  (k_exit_0)
noncomputable def S12_2 (x : X12_2) : St := St.ofList [(3, (.v (.sl 5 (.int .u8)) .s x.f3))]
def out12_2 : Ex → List Nat | .ret => [2] | (.exit 0) => [] | _ => []
noncomputable def fuel12_2 (x : X12_2) : Nat := fuel64
noncomputable def lp12 : Loops := fun i R st K => match i with
  | 8 => match st 3, st 4, st 5, st 6, st 19, st 20, st 21, st 22 with
    | (.v (.sl 5 (.int .u8)) .s y3), (.v (.int .i64) .s y4), (.v (.int .i64) .s y5), (.v (.int .i64) .s y6), (.v (.int .i64) .s y19), (.v (.sl 5 (.int .u8)) .s y20), (.v (.int .i64) .s y21), (.v .bool .s y22) => loopN (B12_8 (fun e3 e4 e5 e19 e20 e21 e22 => K (.exit 2) (St.ofList [(3, (.v (.sl 5 (.int .u8)) .s e3)), (4, (.v (.int .i64) .s e4)), (5, (.v (.int .i64) .s e5)), (19, (.v (.int .i64) .s e19)), (20, (.v (.sl 5 (.int .u8)) .s e20)), (21, (.v (.int .i64) .s e21)), (22, (.v .bool .s e22))]))) (fuel12_8 ⟨y3, y4, y5, y6, y19, y20, y21, y22⟩) ⟨y3, y4, y5, y6, y19, y20, y21, y22⟩
    | _, _, _, _, _, _, _, _ => none
  | 2 => match st 3 with
    | (.v (.sl 5 (.int .u8)) .s y3) => loopN (B12_2 (fun e2 => K .ret (St.ofList [(2, (.v .bool .s e2))])) (K (.exit 0) (St.ofList []))) (fuel12_2 ⟨y3⟩) ⟨y3⟩
    | _ => none
  | _ => none
noncomputable def c12_8 : Code := match loopAt 8 (body Try.f12.body) with | some c => c | none => .skip
theorem step12_8 (R : Type) (K : Ex → St → Option R) (rec : St → Option R) (x : X12_8) : evC (envOf gam12 Try.f12.ntmps fz12) lp12 c12_8 (S12_8 x) (fun e st => match e with | .normal => rec (st.only [3, 4, 5, 6, 19, 20, 21, 22]) | e => K e (st.only (out12_8 e))) = B12_8 (fun e3 e4 e5 e19 e20 e21 e22 => K (.exit 2) (St.ofList [(3, (.v (.sl 5 (.int .u8)) .s e3)), (4, (.v (.int .i64) .s e4)), (5, (.v (.int .i64) .s e5)), (19, (.v (.int .i64) .s e19)), (20, (.v (.sl 5 (.int .u8)) .s e20)), (21, (.v (.int .i64) .s e21)), (22, (.v .bool .s e22))])) (fun x => rec (S12_8 x)) x := by kernel_rfl
theorem ok12_8 : LoopOk (envOf gam12 Try.f12.ntmps fz12) lp12 c12_8 := by
  refine loopOk_of (hd := [3, 4, 5, 6, 19, 20, 21, 22]) (out := out12_8) (S := S12_8) (fun _ K => B12_8 (fun e3 e4 e5 e19 e20 e21 e22 => K (.exit 2) (St.ofList [(3, (.v (.sl 5 (.int .u8)) .s e3)), (4, (.v (.int .i64) .s e4)), (5, (.v (.int .i64) .s e5)), (19, (.v (.int .i64) .s e19)), (20, (.v (.sl 5 (.int .u8)) .s e20)), (21, (.v (.int .i64) .s e21)), (22, (.v .bool .s e22))]))) fuel12_8 8 step12_8 (fun x => by kernel_rfl) (by kernel_rfl) ?_
  intro R st K r h
  unfold lp12 at h
  simp only at h
  split at h
  · rename_i y3 y4 y5 y6 y19 y20 y21 y22 h3 h4 h5 h6 h19 h20 h21 h22
    refine ⟨⟨y3, y4, y5, y6, y19, y20, y21, y22⟩, ?_, h⟩
    show St.ofList [(3, st 3), (4, st 4), (5, st 5), (6, st 6), (19, st 19), (20, st 20), (21, st 21), (22, st 22)] = _
    rw [h3, h4, h5, h6, h19, h20, h21, h22]
    rfl
  · cases h
noncomputable def c12_2 : Code := match loopAt 2 (body Try.f12.body) with | some c => c | none => .skip
theorem step12_2 (R : Type) (K : Ex → St → Option R) (rec : St → Option R) (x : X12_2) : evC (envOf gam12 Try.f12.ntmps fz12) lp12 c12_2 (S12_2 x) (fun e st => match e with | .normal => rec (st.only [3]) | e => K e (st.only (out12_2 e))) = B12_2 (fun e2 => K .ret (St.ofList [(2, (.v .bool .s e2))])) (K (.exit 0) (St.ofList [])) (fun x => rec (S12_2 x)) x := by kernel_rfl
theorem ok12_2 : LoopOk (envOf gam12 Try.f12.ntmps fz12) lp12 c12_2 := by
  refine loopOk_of (hd := [3]) (out := out12_2) (S := S12_2) (fun _ K => B12_2 (fun e2 => K .ret (St.ofList [(2, (.v .bool .s e2))])) (K (.exit 0) (St.ofList []))) fuel12_2 2 step12_2 (fun x => by kernel_rfl) (by kernel_rfl) ?_
  intro R st K r h
  unfold lp12 at h
  simp only at h
  split at h
  · rename_i y3 h3
    refine ⟨⟨y3⟩, ?_, h⟩
    show St.ofList [(3, st 3)] = _
    rw [h3]
    rfl
  · cases h
noncomputable def p12 {R : Type} (a0 : List UInt8) (K : Bool → Option R) : Option R :=
  cond (decide (List.length a0 ≤ most))
  (let v1 := nums a0
  loopN (B12_2 (fun w2 => K w2) (K true)) (fuel12_2 ⟨v1⟩) ⟨v1⟩) none
noncomputable def cs12 : CSpec := { ins := [(.val .str .s)], outs := [(.bool, .s)], fn := fun (d : (List UInt8) × Unit) K => p12 d.1 fun r0 => K ((r0, ()) : Bool × Unit) () }
theorem h12 : Holds Try.prog 12 cs12 := by
  refine holds_of (env := envOf gam12 Try.f12.ntmps fz12) (fn := Try.f12) (code := body Try.f12.body) (rs := [2]) (lp := lp12) mixed (envTyOk _ _ _) gamOk12 Try.func12 (by kernel_rfl) (by kernel_rfl) (by kernel_rfl) (by kernel_rfl) (by kernel_rfl) (loopsOk_of fun c hc => ?_) () ?_
  · rw [show loopsL (body Try.f12.body) = [c12_2, c12_8] by kernel_rfl] at hc
    simp only [List.mem_cons, List.not_mem_nil, or_false] at hc
    rcases hc with rfl | rfl
    · exact ok12_2
    · exact ok12_8
  intro d R K res h
  have : evC (envOf gam12 Try.f12.ntmps fz12) lp12 (body Try.f12.body) (St.args (initS cs12.ins d)) (retK (envOf gam12 Try.f12.ntmps fz12) cs12.outs [2] fun r => K r ()) = cs12.fn d K := by kernel_rfl
  rw [this]; exact h
-- f3 trammel/trammellaw02.UtfRight
noncomputable def fz3 : Nat → Bool
  | _ => false
noncomputable def gam3 : FuncId → Option CSpec
  | 10 => some cs10
  | 11 => some cs11
  | 12 => some cs12
  | _ => none
theorem gamOk3 : EnvFn Try.prog (envOf gam3 Try.f3.ntmps fz3) := by
  intro f c h
  unfold envOf gam3 at h
  simp only at h
  split at h <;> first | (cases h; done) | (cases h; exact h10) | (cases h; exact h11) | (cases h; exact h12)
noncomputable def p3 {R : Type} (a0 : List UInt8) (K : Bool → Option R) : Option R :=
  p10  fun r1 =>
  let v2 := !r1
  cond v2
  (K false)
  (let v3 := ((List.length a0 : Nat) : Int)
  let v4 := minI v3 (3000 : Int)
  cond (inR (0 : Int) v4 (List.length a0))
  (let v5 := rng a0 (0 : Int) v4
  p11 v5 fun r6 =>
  p12 v5 fun r7 =>
  let v8 := r6 == r7
  K v8) none)
noncomputable def cs3 : CSpec := { ins := [(.val .str .s)], outs := [(.bool, .s)], fn := fun (d : (List UInt8) × Unit) K => p3 d.1 fun r0 => K ((r0, ()) : Bool × Unit) () }
theorem h3 : Holds Try.prog 3 cs3 := by
  refine holds_of (env := envOf gam3 Try.f3.ntmps fz3) (fn := Try.f3) (code := body Try.f3.body) (rs := [2]) (lp := lp0) mixed (envTyOk _ _ _) gamOk3 Try.func3 (by kernel_rfl) (by kernel_rfl) (by kernel_rfl) (by kernel_rfl) (by kernel_rfl) (loopsOk_none (by kernel_rfl)) () ?_
  intro d R K res h
  have : evC (envOf gam3 Try.f3.ntmps fz3) lp0 (body Try.f3.body) (St.args (initS cs3.ins d)) (retK (envOf gam3 Try.f3.ntmps fz3) cs3.outs [2] fun r => K r ()) = cs3.fn d K := by kernel_rfl
  rw [this]; exact h
-- f4 trammel/trammellaw02.UtfJoined
noncomputable def fz4 : Nat → Bool
  | _ => false
noncomputable def gam4 : FuncId → Option CSpec
  | 10 => some cs10
  | 11 => some cs11
  | _ => none
theorem gamOk4 : EnvFn Try.prog (envOf gam4 Try.f4.ntmps fz4) := by
  intro f c h
  unfold envOf gam4 at h
  simp only at h
  split at h <;> first | (cases h; done) | (cases h; exact h10) | (cases h; exact h11)
noncomputable def p4 {R : Type} (a0 : List UInt8) (a1 : List UInt8) (K : Bool → Option R) : Option R :=
  p10  fun r1 =>
  let v2 := !r1
  cond v2
  (K false)
  (let v3 := ((List.length a0 : Nat) : Int)
  let v4 := minI v3 (1000 : Int)
  cond (inR (0 : Int) v4 (List.length a0))
  (let v5 := rng a0 (0 : Int) v4
  let v6 := ((List.length a1 : Nat) : Int)
  let v7 := minI v6 (1000 : Int)
  cond (inR (0 : Int) v7 (List.length a1))
  (let v8 := rng a1 (0 : Int) v7
  p11 v5 fun r9 =>
  p11 v8 fun r10 =>
  cond (decide (v5.length + v8.length ≤ most))
  (let v11 := v5 ++ v8
  p11 v11 fun r12 =>
  let v13 := !r9
  cond v13
  (K true)
  (let v14 := r10 == r12
  K v14)) none) none) none)
noncomputable def cs4 : CSpec := { ins := [(.val .str .s), (.val .str .s)], outs := [(.bool, .s)], fn := fun (d : (List UInt8) × (List UInt8) × Unit) K => p4 d.1 d.2.1 fun r0 => K ((r0, ()) : Bool × Unit) () }
theorem h4 : Holds Try.prog 4 cs4 := by
  refine holds_of (env := envOf gam4 Try.f4.ntmps fz4) (fn := Try.f4) (code := body Try.f4.body) (rs := [4]) (lp := lp0) mixed (envTyOk _ _ _) gamOk4 Try.func4 (by kernel_rfl) (by kernel_rfl) (by kernel_rfl) (by kernel_rfl) (by kernel_rfl) (loopsOk_none (by kernel_rfl)) () ?_
  intro d R K res h
  have : evC (envOf gam4 Try.f4.ntmps fz4) lp0 (body Try.f4.body) (St.args (initS cs4.ins d)) (retK (envOf gam4 Try.f4.ntmps fz4) cs4.outs [4] fun r => K r ()) = cs4.fn d K := by kernel_rfl
  rw [this]; exact h
-- f30 trammel/sect.magic
noncomputable def fz30 : Nat → Bool
  | _ => false
noncomputable def gam30 : FuncId → Option CSpec
  | _ => none
theorem gamOk30 : EnvFn Try.prog (envOf gam30 Try.f30.ntmps fz30) := by
  intro f c h
  unfold envOf gam30 at h
  simp only at h
  cases h
noncomputable def p30 {R : Type}  (K : (List (Int)) → Option R) : Option R :=
  let v1 := List.set (List.set (List.set (List.set (List.set (List.set (List.set (List.set (List.replicate 8 (0 : Int)) 0 (0 : Int)) 1 (97 : Int)) 2 (115 : Int)) 3 (109 : Int)) 4 (1 : Int)) 5 (0 : Int)) 6 (0 : Int)) 7 (0 : Int)
  K v1
noncomputable def cs30 : CSpec := { ins := [], outs := [((.sl 5 (.int .u8)), (.o .s))], fn := fun (d : Unit) K => p30  fun r0 => K ((r0, ()) : (List (Int)) × Unit) () }
theorem h30 : Holds Try.prog 30 cs30 := by
  refine holds_of (env := envOf gam30 Try.f30.ntmps fz30) (fn := Try.f30) (code := body Try.f30.body) (rs := [0]) (lp := lp0) mixed (envTyOk _ _ _) gamOk30 Try.func30 (by kernel_rfl) (by kernel_rfl) (by kernel_rfl) (by kernel_rfl) (by kernel_rfl) (loopsOk_none (by kernel_rfl)) () ?_
  intro d R K res h
  have : evC (envOf gam30 Try.f30.ntmps fz30) lp0 (body Try.f30.body) (St.args (initS cs30.ins d)) (retK (envOf gam30 Try.f30.ntmps fz30) cs30.outs [0] fun r => K r ()) = cs30.fn d K := by kernel_rfl
  rw [this]; exact h
-- f44 slices.Index[[]int,int]
noncomputable def fz44 : Nat → Bool
  | _ => false
noncomputable def gam44 : FuncId → Option CSpec
  | _ => none
theorem gamOk44 : EnvFn Try.prog (envOf gam44 Try.f44.ntmps fz44) := by
  intro f c h
  unfold envOf gam44 at h
  simp only at h
  cases h
structure X44_2 where
  f0 : List (Int)
  f1 : Int
  f7 : Int
  f8 : Int

noncomputable def B44_2 {R : Type} (k_ret : Int → Option R) (k_exit_0 : Option R) (rec : X44_2 → Option R) (x : X44_2) : Option R :=
  let v1 := decide (x.f8 < x.f7)
  cond v1
  (cond (inB x.f8 (List.length x.f0))
  (let v2 := List.getD x.f0 x.f8.toNat (0 : Int)
  let v3 := x.f1 == v2
  cond v3
  (k_ret x.f8)
  (let v4 := IntKind.i64.wrap (x.f8 + (1 : Int))
  rec ⟨x.f0, x.f1, x.f7, v4⟩)) none)
  (k_exit_0)
noncomputable def S44_2 (x : X44_2) : St := St.ofList [(0, (.v (.sl 3 (.int .i64)) .s x.f0)), (1, (.v (.int .i64) .s x.f1)), (7, (.v (.int .i64) .s x.f7)), (8, (.v (.int .i64) .s x.f8))]
def out44_2 : Ex → List Nat | .ret => [4] | (.exit 0) => [] | _ => []
noncomputable def fuel44_2 (x : X44_2) : Nat := fuel64
noncomputable def lp44 : Loops := fun i R st K => match i with
  | 2 => match st 0, st 1, st 7, st 8 with
    | (.v (.sl 3 (.int .i64)) .s y0), (.v (.int .i64) .s y1), (.v (.int .i64) .s y7), (.v (.int .i64) .s y8) => loopN (B44_2 (fun e4 => K .ret (St.ofList [(4, (.v (.int .i64) .s e4))])) (K (.exit 0) (St.ofList []))) (fuel44_2 ⟨y0, y1, y7, y8⟩) ⟨y0, y1, y7, y8⟩
    | _, _, _, _ => none
  | _ => none
noncomputable def c44_2 : Code := match loopAt 2 (body Try.f44.body) with | some c => c | none => .skip
theorem step44_2 (R : Type) (K : Ex → St → Option R) (rec : St → Option R) (x : X44_2) : evC (envOf gam44 Try.f44.ntmps fz44) lp44 c44_2 (S44_2 x) (fun e st => match e with | .normal => rec (st.only [0, 1, 7, 8]) | e => K e (st.only (out44_2 e))) = B44_2 (fun e4 => K .ret (St.ofList [(4, (.v (.int .i64) .s e4))])) (K (.exit 0) (St.ofList [])) (fun x => rec (S44_2 x)) x := by kernel_rfl
theorem ok44_2 : LoopOk (envOf gam44 Try.f44.ntmps fz44) lp44 c44_2 := by
  refine loopOk_of (hd := [0, 1, 7, 8]) (out := out44_2) (S := S44_2) (fun _ K => B44_2 (fun e4 => K .ret (St.ofList [(4, (.v (.int .i64) .s e4))])) (K (.exit 0) (St.ofList []))) fuel44_2 2 step44_2 (fun x => by kernel_rfl) (by kernel_rfl) ?_
  intro R st K r h
  unfold lp44 at h
  simp only at h
  split at h
  · rename_i y0 y1 y7 y8 h0 h1 h7 h8
    refine ⟨⟨y0, y1, y7, y8⟩, ?_, h⟩
    show St.ofList [(0, st 0), (1, st 1), (7, st 7), (8, st 8)] = _
    rw [h0, h1, h7, h8]
    rfl
  · cases h
noncomputable def p44 {R : Type} (a0 : List (Int)) (a1 : Int) (K : Int → Option R) : Option R :=
  let v1 := ((List.length a0 : Nat) : Int)
  loopN (B44_2 (fun w2 => K w2) (K (-1 : Int))) (fuel44_2 ⟨a0, a1, v1, (0 : Int)⟩) ⟨a0, a1, v1, (0 : Int)⟩
noncomputable def cs44 : CSpec := { ins := [(.val (.sl 3 (.int .i64)) .s), (.val (.int .i64) .s)], outs := [((.int .i64), .s)], fn := fun (d : (List (Int)) × Int × Unit) K => p44 d.1 d.2.1 fun r0 => K ((r0, ()) : Int × Unit) () }
theorem h44 : Holds Try.prog 44 cs44 := by
  refine holds_of (env := envOf gam44 Try.f44.ntmps fz44) (fn := Try.f44) (code := body Try.f44.body) (rs := [4]) (lp := lp44) mixed (envTyOk _ _ _) gamOk44 Try.func44 (by kernel_rfl) (by kernel_rfl) (by kernel_rfl) (by kernel_rfl) (by kernel_rfl) (loopsOk_of fun c hc => ?_) () ?_
  · rw [show loopsL (body Try.f44.body) = [c44_2] by kernel_rfl] at hc
    simp only [List.mem_cons, List.not_mem_nil, or_false] at hc
    rcases hc with rfl
    · exact ok44_2
  intro d R K res h
  have : evC (envOf gam44 Try.f44.ntmps fz44) lp44 (body Try.f44.body) (St.args (initS cs44.ins d)) (retK (envOf gam44 Try.f44.ntmps fz44) cs44.outs [4] fun r => K r ()) = cs44.fn d K := by kernel_rfl
  rw [this]; exact h
-- f39 trammel/sect.rank
noncomputable def fz39 : Nat → Bool
  | _ => false
noncomputable def gam39 : FuncId → Option CSpec
  | 44 => some cs44
  | _ => none
theorem gamOk39 : EnvFn Try.prog (envOf gam39 Try.f39.ntmps fz39) := by
  intro f c h
  unfold envOf gam39 at h
  simp only at h
  split at h <;> first | (cases h; done) | (cases h; exact h44)
noncomputable def p39 {R : Type} (a0 : Int) (K : Int → Option R) : Option R :=
  let v1 := a0 == (0 : Int)
  cond v1
  (K (0 : Int))
  (let v2 := List.set (List.set (List.set (List.set (List.set (List.set (List.set (List.set (List.set (List.set (List.set (List.set (List.replicate 12 (0 : Int)) 0 (1 : Int)) 1 (2 : Int)) 2 (3 : Int)) 3 (4 : Int)) 4 (5 : Int)) 5 (6 : Int)) 6 (7 : Int)) 7 (8 : Int)) 8 (9 : Int)) 9 (12 : Int)) 10 (10 : Int)) 11 (11 : Int)
  p44 v2 a0 fun r3 =>
  let v4 := decide (r3 < (0 : Int))
  cond v4
  (K (-1 : Int))
  (let v5 := IntKind.i64.wrap (r3 + (1 : Int))
  K v5))
noncomputable def cs39 : CSpec := { ins := [(.val (.int .i64) .s)], outs := [((.int .i64), .s)], fn := fun (d : Int × Unit) K => p39 d.1 fun r0 => K ((r0, ()) : Int × Unit) () }
theorem h39 : Holds Try.prog 39 cs39 := by
  refine holds_of (env := envOf gam39 Try.f39.ntmps fz39) (fn := Try.f39) (code := body Try.f39.body) (rs := [2]) (lp := lp0) mixed (envTyOk _ _ _) gamOk39 Try.func39 (by kernel_rfl) (by kernel_rfl) (by kernel_rfl) (by kernel_rfl) (by kernel_rfl) (loopsOk_none (by kernel_rfl)) () ?_
  intro d R K res h
  have : evC (envOf gam39 Try.f39.ntmps fz39) lp0 (body Try.f39.body) (St.args (initS cs39.ins d)) (retK (envOf gam39 Try.f39.ntmps fz39) cs39.outs [2] fun r => K r ()) = cs39.fn d K := by kernel_rfl
  rw [this]; exact h
-- REFUSED f31 (*trammel/sect.order).next: rdP none
-- f33 slices.Clone[[]byte,byte]
noncomputable def fz33 : Nat → Bool
  | _ => false
noncomputable def gam33 : FuncId → Option CSpec
  | _ => none
theorem gamOk33 : EnvFn Try.prog (envOf gam33 Try.f33.ntmps fz33) := by
  intro f c h
  unfold envOf gam33 at h
  simp only at h
  cases h
noncomputable def p33 {R : Type} (a0 : List (Int)) (K : (List (Int)) → Option R) : Option R :=
  cond (List.isEmpty a0)
  (both
  (K ([] : List (Int)))
  (let v1 := List.replicate 0 (0 : Int)
  cond (decide (List.length v1 + List.length a0 ≤ most))
  (let v2 := v1 ++ a0
  K v2) none))
  (let v3 := List.replicate 0 (0 : Int)
  cond (decide (List.length v3 + List.length a0 ≤ most))
  (let v4 := v3 ++ a0
  K v4) none)
noncomputable def cs33 : CSpec := { ins := [(.val (.sl 5 (.int .u8)) .s)], outs := [((.sl 5 (.int .u8)), (.o .s))], fn := fun (d : (List (Int)) × Unit) K => p33 d.1 fun r0 => K ((r0, ()) : (List (Int)) × Unit) () }
theorem h33 : Holds Try.prog 33 cs33 := by
  refine holds_of (env := envOf gam33 Try.f33.ntmps fz33) (fn := Try.f33) (code := body Try.f33.body) (rs := [2]) (lp := lp0) mixed (envTyOk _ _ _) gamOk33 Try.func33 (by kernel_rfl) (by kernel_rfl) (by kernel_rfl) (by kernel_rfl) (by kernel_rfl) (loopsOk_none (by kernel_rfl)) () ?_
  intro d R K res h
  have : evC (envOf gam33 Try.f33.ntmps fz33) lp0 (body Try.f33.body) (St.args (initS cs33.ins d)) (retK (envOf gam33 Try.f33.ntmps fz33) cs33.outs [2] fun r => K r ()) = cs33.fn d K := by kernel_rfl
  rw [this]; exact h
-- f36 trammel/leb.PutU
noncomputable def fz36 : Nat → Bool
  | _ => false
noncomputable def gam36 : FuncId → Option CSpec
  | 33 => some cs33
  | _ => none
theorem gamOk36 : EnvFn Try.prog (envOf gam36 Try.f36.ntmps fz36) := by
  intro f c h
  unfold envOf gam36 at h
  simp only at h
  split at h <;> first | (cases h; done) | (cases h; exact h33)
structure X36_2 where
  f1 : Int
  f5 : List (Int)

noncomputable def B36_2 {R : Type} (k_exit_0 : Int → (List (Int)) → Option R) (rec : X36_2 → Option R) (x : X36_2) : Option R :=
  let v1 := decide (x.f1 ≥ (128 : Int))
  cond v1
  (let v2 := IntKind.u8.wrap x.f1
  let v3 := IntKind.u8.wrap ((BitVec.ofInt IntKind.u8.bits v2 ||| BitVec.ofInt IntKind.u8.bits (128 : Int)).toNat)
  let v4 := List.set (List.replicate 1 (0 : Int)) 0 v3
  cond (decide (List.length x.f5 + List.length v4 ≤ most))
  (let v5 := x.f5 ++ v4
  cond (decide (0 ≤ (7 : Int)))
  (let v6 := shrI .u64 x.f1 (7 : Int)
  rec ⟨v6, v5⟩) none) none)
  (k_exit_0 x.f1 x.f5)
noncomputable def S36_2 (x : X36_2) : St := St.ofList [(1, (.v (.int .u64) .s x.f1)), (5, (.v (.sl 5 (.int .u8)) (.o .s) x.f5))]
def out36_2 : Ex → List Nat | (.exit 0) => [1, 5] | _ => []
noncomputable def fuel36_2 (x : X36_2) : Nat := fuel64
noncomputable def lp36 : Loops := fun i R st K => match i with
  | 2 => match st 1, st 5 with
    | (.v (.int .u64) .s y1), (.v (.sl 5 (.int .u8)) (.o .s) y5) => loopN (B36_2 (fun e1 e5 => K (.exit 0) (St.ofList [(1, (.v (.int .u64) .s e1)), (5, (.v (.sl 5 (.int .u8)) (.o .s) e5))]))) (fuel36_2 ⟨y1, y5⟩) ⟨y1, y5⟩
    | _, _ => none
  | _ => none
noncomputable def c36_2 : Code := match loopAt 2 (body Try.f36.body) with | some c => c | none => .skip
theorem step36_2 (R : Type) (K : Ex → St → Option R) (rec : St → Option R) (x : X36_2) : evC (envOf gam36 Try.f36.ntmps fz36) lp36 c36_2 (S36_2 x) (fun e st => match e with | .normal => rec (st.only [1, 5]) | e => K e (st.only (out36_2 e))) = B36_2 (fun e1 e5 => K (.exit 0) (St.ofList [(1, (.v (.int .u64) .s e1)), (5, (.v (.sl 5 (.int .u8)) (.o .s) e5))])) (fun x => rec (S36_2 x)) x := by kernel_rfl
theorem ok36_2 : LoopOk (envOf gam36 Try.f36.ntmps fz36) lp36 c36_2 := by
  refine loopOk_of (hd := [1, 5]) (out := out36_2) (S := S36_2) (fun _ K => B36_2 (fun e1 e5 => K (.exit 0) (St.ofList [(1, (.v (.int .u64) .s e1)), (5, (.v (.sl 5 (.int .u8)) (.o .s) e5))]))) fuel36_2 2 step36_2 (fun x => by kernel_rfl) (by kernel_rfl) ?_
  intro R st K r h
  unfold lp36 at h
  simp only at h
  split at h
  · rename_i y1 y5 h1 h5
    refine ⟨⟨y1, y5⟩, ?_, h⟩
    show St.ofList [(1, st 1), (5, st 5)] = _
    rw [h1, h5]
    rfl
  · cases h
noncomputable def p36 {R : Type} (a0 : List (Int)) (a1 : Int) (K : (List (Int)) → Option R) : Option R :=
  p33 a0 fun r1 =>
  loopN (B36_2 (fun w2 w3 => let v4 := IntKind.u8.wrap w2
  let v5 := List.set (List.replicate 1 (0 : Int)) 0 v4
  cond (decide (List.length w3 + List.length v5 ≤ most))
  (let v6 := w3 ++ v5
  K v6) none)) (fuel36_2 ⟨a1, r1⟩) ⟨a1, r1⟩
noncomputable def cs36 : CSpec := { ins := [(.val (.sl 5 (.int .u8)) .s), (.val (.int .u64) .s)], outs := [((.sl 5 (.int .u8)), (.o .s))], fn := fun (d : (List (Int)) × Int × Unit) K => p36 d.1 d.2.1 fun r0 => K ((r0, ()) : (List (Int)) × Unit) () }
theorem h36 : Holds Try.prog 36 cs36 := by
  refine holds_of (env := envOf gam36 Try.f36.ntmps fz36) (fn := Try.f36) (code := body Try.f36.body) (rs := [4]) (lp := lp36) mixed (envTyOk _ _ _) gamOk36 Try.func36 (by kernel_rfl) (by kernel_rfl) (by kernel_rfl) (by kernel_rfl) (by kernel_rfl) (loopsOk_of fun c hc => ?_) () ?_
  · rw [show loopsL (body Try.f36.body) = [c36_2] by kernel_rfl] at hc
    simp only [List.mem_cons, List.not_mem_nil, or_false] at hc
    rcases hc with rfl
    · exact ok36_2
  intro d R K res h
  have : evC (envOf gam36 Try.f36.ntmps fz36) lp36 (body Try.f36.body) (St.args (initS cs36.ins d)) (retK (envOf gam36 Try.f36.ntmps fz36) cs36.outs [4] fun r => K r ()) = cs36.fn d K := by kernel_rfl
  rw [this]; exact h
-- REFUSED f19 trammel/sect.Join: no contract of f31
-- REFUSED f14 trammel/sect.Split: no contract of f31
-- REFUSED f13 trammel/trammellaw07.awake: no contract of f19
-- f41 trammel/trammelref07.place
noncomputable def fz41 : Nat → Bool
  | _ => false
noncomputable def gam41 : FuncId → Option CSpec
  | _ => none
theorem gamOk41 : EnvFn Try.prog (envOf gam41 Try.f41.ntmps fz41) := by
  intro f c h
  unfold envOf gam41 at h
  simp only at h
  cases h
noncomputable def p41 {R : Type} (a0 : Int) (K : Int → Option R) : Option R :=
  let v1 := a0 == (12 : Int)
  cond v1
  (K (95 : Int))
  (let v2 := IntKind.i64.wrap (a0 * (10 : Int))
  K v2)
noncomputable def cs41 : CSpec := { ins := [(.val (.int .i64) .s)], outs := [((.int .i64), .s)], fn := fun (d : Int × Unit) K => p41 d.1 fun r0 => K ((r0, ()) : Int × Unit) () }
theorem h41 : Holds Try.prog 41 cs41 := by
  refine holds_of (env := envOf gam41 Try.f41.ntmps fz41) (fn := Try.f41) (code := body Try.f41.body) (rs := [2]) (lp := lp0) mixed (envTyOk _ _ _) gamOk41 Try.func41 (by kernel_rfl) (by kernel_rfl) (by kernel_rfl) (by kernel_rfl) (by kernel_rfl) (loopsOk_none (by kernel_rfl)) () ?_
  intro d R K res h
  have : evC (envOf gam41 Try.f41.ntmps fz41) lp0 (body Try.f41.body) (St.args (initS cs41.ins d)) (retK (envOf gam41 Try.f41.ntmps fz41) cs41.outs [2] fun r => K r ()) = cs41.fn d K := by kernel_rfl
  rw [this]; exact h
-- f34 trammel/trammelref07.may
noncomputable def fz34 : Nat → Bool
  | _ => false
noncomputable def gam34 : FuncId → Option CSpec
  | 41 => some cs41
  | _ => none
theorem gamOk34 : EnvFn Try.prog (envOf gam34 Try.f34.ntmps fz34) := by
  intro f c h
  unfold envOf gam34 at h
  simp only at h
  split at h <;> first | (cases h; done) | (cases h; exact h41)
structure X34_4 where
  f0 : List ((Int) × (List (Int)) × Unit)
  f1 : Int
  f5 : Int

noncomputable def B34_4 {R : Type} (k_ret : Bool → Option R) (k_exit_0 : Option R) (rec : X34_4 → Option R) (x : X34_4) : Option R :=
  let v1 := ((List.length x.f0 : Nat) : Int)
  let v2 := decide (x.f5 < v1)
  cond v2
  (let v3 := x.f1 != (0 : Int)
  cond v3
  (cond (inB x.f5 (List.length x.f0))
  (let v4 := List.getD x.f0 x.f5.toNat ((0 : Int), (([] : List (Int)), ()))
  let v5 := v4.1 != (0 : Int)
  cond v5
  (cond (inB x.f5 (List.length x.f0))
  (let v6 := List.getD x.f0 x.f5.toNat ((0 : Int), (([] : List (Int)), ()))
  p41 v6.1 fun r7 =>
  p41 x.f1 fun r8 =>
  let v9 := decide (r7 ≥ r8)
  cond v9
  (k_ret false)
  (let v10 := IntKind.i64.wrap (x.f5 + (1 : Int))
  rec ⟨x.f0, x.f1, v10⟩)) none)
  (let v11 := IntKind.i64.wrap (x.f5 + (1 : Int))
  rec ⟨x.f0, x.f1, v11⟩)) none)
  (let v12 := IntKind.i64.wrap (x.f5 + (1 : Int))
  rec ⟨x.f0, x.f1, v12⟩))
  (k_exit_0)
noncomputable def S34_4 (x : X34_4) : St := St.ofList [(0, (.v (.sl 38 (.pair (.int .i64) (.pair (.sl 5 (.int .u8)) .unit))) .s x.f0)), (1, (.v (.int .i64) .s x.f1)), (5, (.v (.int .i64) .s x.f5))]
def out34_4 : Ex → List Nat | .ret => [4] | (.exit 0) => [] | _ => []
noncomputable def fuel34_4 (x : X34_4) : Nat := fuel64
noncomputable def lp34 : Loops := fun i R st K => match i with
  | 4 => match st 0, st 1, st 5 with
    | (.v (.sl 38 (.pair (.int .i64) (.pair (.sl 5 (.int .u8)) .unit))) .s y0), (.v (.int .i64) .s y1), (.v (.int .i64) .s y5) => loopN (B34_4 (fun e4 => K .ret (St.ofList [(4, (.v .bool .s e4))])) (K (.exit 0) (St.ofList []))) (fuel34_4 ⟨y0, y1, y5⟩) ⟨y0, y1, y5⟩
    | _, _, _ => none
  | _ => none
noncomputable def c34_4 : Code := match loopAt 4 (body Try.f34.body) with | some c => c | none => .skip
theorem step34_4 (R : Type) (K : Ex → St → Option R) (rec : St → Option R) (x : X34_4) : evC (envOf gam34 Try.f34.ntmps fz34) lp34 c34_4 (S34_4 x) (fun e st => match e with | .normal => rec (st.only [0, 1, 5]) | e => K e (st.only (out34_4 e))) = B34_4 (fun e4 => K .ret (St.ofList [(4, (.v .bool .s e4))])) (K (.exit 0) (St.ofList [])) (fun x => rec (S34_4 x)) x := by kernel_rfl
theorem ok34_4 : LoopOk (envOf gam34 Try.f34.ntmps fz34) lp34 c34_4 := by
  refine loopOk_of (hd := [0, 1, 5]) (out := out34_4) (S := S34_4) (fun _ K => B34_4 (fun e4 => K .ret (St.ofList [(4, (.v .bool .s e4))])) (K (.exit 0) (St.ofList []))) fuel34_4 4 step34_4 (fun x => by kernel_rfl) (by kernel_rfl) ?_
  intro R st K r h
  unfold lp34 at h
  simp only at h
  split at h
  · rename_i y0 y1 y5 h0 h1 h5
    refine ⟨⟨y0, y1, y5⟩, ?_, h⟩
    show St.ofList [(0, st 0), (1, st 1), (5, st 5)] = _
    rw [h0, h1, h5]
    rfl
  · cases h
noncomputable def p34 {R : Type} (a0 : List ((Int) × (List (Int)) × Unit)) (a1 : Int) (K : Bool → Option R) : Option R :=
  let v1 := decide (a1 < (0 : Int))
  cond v1
  (K false)
  (let v2 := decide (a1 > (12 : Int))
  cond v2
  (K false)
  (loopN (B34_4 (fun w3 => K w3) (K true)) (fuel34_4 ⟨a0, a1, (0 : Int)⟩) ⟨a0, a1, (0 : Int)⟩))
noncomputable def cs34 : CSpec := { ins := [(.val (.sl 38 (.pair (.int .i64) (.pair (.sl 5 (.int .u8)) .unit))) .s), (.val (.int .i64) .s)], outs := [(.bool, .s)], fn := fun (d : (List ((Int) × (List (Int)) × Unit)) × Int × Unit) K => p34 d.1 d.2.1 fun r0 => K ((r0, ()) : Bool × Unit) () }
theorem h34 : Holds Try.prog 34 cs34 := by
  refine holds_of (env := envOf gam34 Try.f34.ntmps fz34) (fn := Try.f34) (code := body Try.f34.body) (rs := [4]) (lp := lp34) mixed (envTyOk _ _ _) gamOk34 Try.func34 (by kernel_rfl) (by kernel_rfl) (by kernel_rfl) (by kernel_rfl) (by kernel_rfl) (loopsOk_of fun c hc => ?_) () ?_
  · rw [show loopsL (body Try.f34.body) = [c34_4] by kernel_rfl] at hc
    simp only [List.mem_cons, List.not_mem_nil, or_false] at hc
    rcases hc with rfl
    · exact ok34_4
  intro d R K res h
  have : evC (envOf gam34 Try.f34.ntmps fz34) lp34 (body Try.f34.body) (St.args (initS cs34.ins d)) (retK (envOf gam34 Try.f34.ntmps fz34) cs34.outs [4] fun r => K r ()) = cs34.fn d K := by kernel_rfl
  rw [this]; exact h
-- f46 trammel/trammelref01.most
noncomputable def fz46 : Nat → Bool
  | _ => false
noncomputable def gam46 : FuncId → Option CSpec
  | _ => none
theorem gamOk46 : EnvFn Try.prog (envOf gam46 Try.f46.ntmps fz46) := by
  intro f c h
  unfold envOf gam46 at h
  simp only at h
  cases h
structure X46_2 where
  f0 : Int
  f3 : Int

noncomputable def B46_2 {R : Type} (k_exit_0 : Int → Option R) (rec : X46_2 → Option R) (x : X46_2) : Option R :=
  let v1 := IntKind.i64.wrap ((7 : Int) * x.f3)
  let v2 := decide (v1 < x.f0)
  cond v2
  (let v3 := IntKind.i64.wrap (x.f3 + (1 : Int))
  rec ⟨x.f0, v3⟩)
  (k_exit_0 x.f3)
noncomputable def S46_2 (x : X46_2) : St := St.ofList [(0, (.v (.int .i64) .s x.f0)), (3, (.v (.int .i64) .s x.f3))]
def out46_2 : Ex → List Nat | (.exit 0) => [3] | _ => []
noncomputable def fuel46_2 (x : X46_2) : Nat := fuel64
noncomputable def lp46 : Loops := fun i R st K => match i with
  | 2 => match st 0, st 3 with
    | (.v (.int .i64) .s y0), (.v (.int .i64) .s y3) => loopN (B46_2 (fun e3 => K (.exit 0) (St.ofList [(3, (.v (.int .i64) .s e3))]))) (fuel46_2 ⟨y0, y3⟩) ⟨y0, y3⟩
    | _, _ => none
  | _ => none
noncomputable def c46_2 : Code := match loopAt 2 (body Try.f46.body) with | some c => c | none => .skip
theorem step46_2 (R : Type) (K : Ex → St → Option R) (rec : St → Option R) (x : X46_2) : evC (envOf gam46 Try.f46.ntmps fz46) lp46 c46_2 (S46_2 x) (fun e st => match e with | .normal => rec (st.only [0, 3]) | e => K e (st.only (out46_2 e))) = B46_2 (fun e3 => K (.exit 0) (St.ofList [(3, (.v (.int .i64) .s e3))])) (fun x => rec (S46_2 x)) x := by kernel_rfl
theorem ok46_2 : LoopOk (envOf gam46 Try.f46.ntmps fz46) lp46 c46_2 := by
  refine loopOk_of (hd := [0, 3]) (out := out46_2) (S := S46_2) (fun _ K => B46_2 (fun e3 => K (.exit 0) (St.ofList [(3, (.v (.int .i64) .s e3))]))) fuel46_2 2 step46_2 (fun x => by kernel_rfl) (by kernel_rfl) ?_
  intro R st K r h
  unfold lp46 at h
  simp only at h
  split at h
  · rename_i y0 y3 h0 h3
    refine ⟨⟨y0, y3⟩, ?_, h⟩
    show St.ofList [(0, st 0), (3, st 3)] = _
    rw [h0, h3]
    rfl
  · cases h
noncomputable def p46 {R : Type} (a0 : Int) (K : Int → Option R) : Option R :=
  loopN (B46_2 (fun w1 => K w1)) (fuel46_2 ⟨a0, (0 : Int)⟩) ⟨a0, (0 : Int)⟩
noncomputable def cs46 : CSpec := { ins := [(.val (.int .i64) .s)], outs := [((.int .i64), .s)], fn := fun (d : Int × Unit) K => p46 d.1 fun r0 => K ((r0, ()) : Int × Unit) () }
theorem h46 : Holds Try.prog 46 cs46 := by
  refine holds_of (env := envOf gam46 Try.f46.ntmps fz46) (fn := Try.f46) (code := body Try.f46.body) (rs := [2]) (lp := lp46) mixed (envTyOk _ _ _) gamOk46 Try.func46 (by kernel_rfl) (by kernel_rfl) (by kernel_rfl) (by kernel_rfl) (by kernel_rfl) (loopsOk_of fun c hc => ?_) () ?_
  · rw [show loopsL (body Try.f46.body) = [c46_2] by kernel_rfl] at hc
    simp only [List.mem_cons, List.not_mem_nil, or_false] at hc
    rcases hc with rfl
    · exact ok46_2
  intro d R K res h
  have : evC (envOf gam46 Try.f46.ntmps fz46) lp46 (body Try.f46.body) (St.args (initS cs46.ins d)) (retK (envOf gam46 Try.f46.ntmps fz46) cs46.outs [2] fun r => K r ()) = cs46.fn d K := by kernel_rfl
  rw [this]; exact h
-- f42 trammel/trammelref01.Read
noncomputable def fz42 : Nat → Bool
  | _ => false
noncomputable def gam42 : FuncId → Option CSpec
  | 46 => some cs46
  | _ => none
theorem gamOk42 : EnvFn Try.prog (envOf gam42 Try.f42.ntmps fz42) := by
  intro f c h
  unfold envOf gam42 at h
  simp only at h
  split at h <;> first | (cases h; done) | (cases h; exact h46)
structure X42_10 where
  f0 : List (Int)
  f1 : Int
  f7 : List (Bool)
  f8 : Int
  f9 : Int

noncomputable def B42_10 {R : Type} (k_exit_2 : (List (Int)) → Int → (List (Bool)) → Int → Option R) (rec : X42_10 → Option R) (x : X42_10) : Option R :=
  let v1 := decide (x.f9 < (7 : Int))
  cond v1
  (cond (inB x.f8 (List.length x.f0))
  (let v2 := List.getD x.f0 x.f8.toNat (0 : Int)
  let v3 := IntKind.u64.wrap x.f9
  cond (decide (0 ≤ v3))
  (let v4 := shrI .u8 v2 v3
  cond ((2 : Int) != 0)
  (let v5 := Int.tmod v4 (2 : Int)
  let v6 := v5 == (1 : Int)
  let v7 := List.set (List.replicate 1 false) 0 v6
  cond (decide (List.length x.f7 + List.length v7 ≤ most))
  (let v8 := x.f7 ++ v7
  let v9 := IntKind.i64.wrap (x.f9 + (1 : Int))
  rec ⟨x.f0, x.f1, v8, x.f8, v9⟩) none) none) none) none)
  (k_exit_2 x.f0 x.f1 x.f7 x.f8)
noncomputable def S42_10 (x : X42_10) : St := St.ofList [(0, (.v (.sl 5 (.int .u8)) .s x.f0)), (1, (.v (.int .i64) .s x.f1)), (7, (.v (.sl 4 .bool) (.o .s) x.f7)), (8, (.v (.int .i64) .s x.f8)), (9, (.v (.int .i64) .s x.f9))]
def out42_10 : Ex → List Nat | (.exit 2) => [0, 1, 7, 8] | _ => []
noncomputable def fuel42_10 (x : X42_10) : Nat := fuel64
structure X42_5 where
  f0 : List (Int)
  f1 : Int
  f7 : List (Bool)
  f8 : Int

noncomputable def B42_5 {R : Type} (k_ret : (List (Bool)) → Int → Int → Option R) (k_exit_0 : Option R) (rec : X42_5 → Option R) (x : X42_5) : Option R :=
  p46 x.f1 fun r1 =>
  let v2 := decide (x.f8 < r1)
  cond v2
  (let v3 := ((List.length x.f0 : Nat) : Int)
  let v4 := decide (x.f8 ≥ v3)
  cond v4
  (k_ret ([] : List (Bool)) (0 : Int) (1 : Int))
  (loopN (B42_10 (fun w5 w6 w7 w8 => cond (inB w8 (List.length w5))
  (let v9 := List.getD w5 w8.toNat (0 : Int)
  let v10 := decide (v9 < (128 : Int))
  cond v10
  (let v11 := IntKind.i64.wrap (w8 + (1 : Int))
  k_ret w7 v11 (0 : Int))
  (let v12 := IntKind.i64.wrap (w8 + (1 : Int))
  rec ⟨w5, w6, w7, v12⟩)) none)) (fuel42_10 ⟨x.f0, x.f1, x.f7, x.f8, (0 : Int)⟩) ⟨x.f0, x.f1, x.f7, x.f8, (0 : Int)⟩))
  (k_exit_0)
noncomputable def S42_5 (x : X42_5) : St := St.ofList [(0, (.v (.sl 5 (.int .u8)) .s x.f0)), (1, (.v (.int .i64) .s x.f1)), (7, (.v (.sl 4 .bool) (.o .s) x.f7)), (8, (.v (.int .i64) .s x.f8))]
def out42_5 : Ex → List Nat | .ret => [4, 5, 6] | (.exit 0) => [] | _ => []
noncomputable def fuel42_5 (x : X42_5) : Nat := fuel64
noncomputable def lp42 : Loops := fun i R st K => match i with
  | 10 => match st 0, st 1, st 7, st 8, st 9 with
    | (.v (.sl 5 (.int .u8)) .s y0), (.v (.int .i64) .s y1), (.v (.sl 4 .bool) (.o .s) y7), (.v (.int .i64) .s y8), (.v (.int .i64) .s y9) => loopN (B42_10 (fun e0 e1 e7 e8 => K (.exit 2) (St.ofList [(0, (.v (.sl 5 (.int .u8)) .s e0)), (1, (.v (.int .i64) .s e1)), (7, (.v (.sl 4 .bool) (.o .s) e7)), (8, (.v (.int .i64) .s e8))]))) (fuel42_10 ⟨y0, y1, y7, y8, y9⟩) ⟨y0, y1, y7, y8, y9⟩
    | _, _, _, _, _ => none
  | 5 => match st 0, st 1, st 7, st 8 with
    | (.v (.sl 5 (.int .u8)) .s y0), (.v (.int .i64) .s y1), (.v (.sl 4 .bool) (.o .s) y7), (.v (.int .i64) .s y8) => loopN (B42_5 (fun e4 e5 e6 => K .ret (St.ofList [(4, (.v (.sl 4 .bool) (.o .s) e4)), (5, (.v (.int .i64) .s e5)), (6, (.v (.int .i64) .s e6))])) (K (.exit 0) (St.ofList []))) (fuel42_5 ⟨y0, y1, y7, y8⟩) ⟨y0, y1, y7, y8⟩
    | _, _, _, _ => none
  | _ => none
noncomputable def c42_10 : Code := match loopAt 10 (body Try.f42.body) with | some c => c | none => .skip
theorem step42_10 (R : Type) (K : Ex → St → Option R) (rec : St → Option R) (x : X42_10) : evC (envOf gam42 Try.f42.ntmps fz42) lp42 c42_10 (S42_10 x) (fun e st => match e with | .normal => rec (st.only [0, 1, 7, 8, 9]) | e => K e (st.only (out42_10 e))) = B42_10 (fun e0 e1 e7 e8 => K (.exit 2) (St.ofList [(0, (.v (.sl 5 (.int .u8)) .s e0)), (1, (.v (.int .i64) .s e1)), (7, (.v (.sl 4 .bool) (.o .s) e7)), (8, (.v (.int .i64) .s e8))])) (fun x => rec (S42_10 x)) x := by kernel_rfl
theorem ok42_10 : LoopOk (envOf gam42 Try.f42.ntmps fz42) lp42 c42_10 := by
  refine loopOk_of (hd := [0, 1, 7, 8, 9]) (out := out42_10) (S := S42_10) (fun _ K => B42_10 (fun e0 e1 e7 e8 => K (.exit 2) (St.ofList [(0, (.v (.sl 5 (.int .u8)) .s e0)), (1, (.v (.int .i64) .s e1)), (7, (.v (.sl 4 .bool) (.o .s) e7)), (8, (.v (.int .i64) .s e8))]))) fuel42_10 10 step42_10 (fun x => by kernel_rfl) (by kernel_rfl) ?_
  intro R st K r h
  unfold lp42 at h
  simp only at h
  split at h
  · rename_i y0 y1 y7 y8 y9 h0 h1 h7 h8 h9
    refine ⟨⟨y0, y1, y7, y8, y9⟩, ?_, h⟩
    show St.ofList [(0, st 0), (1, st 1), (7, st 7), (8, st 8), (9, st 9)] = _
    rw [h0, h1, h7, h8, h9]
    rfl
  · cases h
noncomputable def c42_5 : Code := match loopAt 5 (body Try.f42.body) with | some c => c | none => .skip
theorem step42_5 (R : Type) (K : Ex → St → Option R) (rec : St → Option R) (x : X42_5) : evC (envOf gam42 Try.f42.ntmps fz42) lp42 c42_5 (S42_5 x) (fun e st => match e with | .normal => rec (st.only [0, 1, 7, 8]) | e => K e (st.only (out42_5 e))) = B42_5 (fun e4 e5 e6 => K .ret (St.ofList [(4, (.v (.sl 4 .bool) (.o .s) e4)), (5, (.v (.int .i64) .s e5)), (6, (.v (.int .i64) .s e6))])) (K (.exit 0) (St.ofList [])) (fun x => rec (S42_5 x)) x := by kernel_rfl
theorem ok42_5 : LoopOk (envOf gam42 Try.f42.ntmps fz42) lp42 c42_5 := by
  refine loopOk_of (hd := [0, 1, 7, 8]) (out := out42_5) (S := S42_5) (fun _ K => B42_5 (fun e4 e5 e6 => K .ret (St.ofList [(4, (.v (.sl 4 .bool) (.o .s) e4)), (5, (.v (.int .i64) .s e5)), (6, (.v (.int .i64) .s e6))])) (K (.exit 0) (St.ofList []))) fuel42_5 5 step42_5 (fun x => by kernel_rfl) (by kernel_rfl) ?_
  intro R st K r h
  unfold lp42 at h
  simp only at h
  split at h
  · rename_i y0 y1 y7 y8 h0 h1 h7 h8
    refine ⟨⟨y0, y1, y7, y8⟩, ?_, h⟩
    show St.ofList [(0, st 0), (1, st 1), (7, st 7), (8, st 8)] = _
    rw [h0, h1, h7, h8]
    rfl
  · cases h
noncomputable def p42 {R : Type} (a0 : List (Int)) (a1 : Int) (K : (List (Bool)) → Int → Int → Option R) : Option R :=
  let v1 := decide (a1 < (1 : Int))
  cond v1
  (K ([] : List (Bool)) (0 : Int) (5 : Int))
  (let v2 := decide (a1 > (64 : Int))
  cond v2
  (K ([] : List (Bool)) (0 : Int) (5 : Int))
  (loopN (B42_5 (fun w3 w4 w5 => K w3 w4 w5) (K ([] : List (Bool)) (0 : Int) (2 : Int))) (fuel42_5 ⟨a0, a1, ([] : List (Bool)), (0 : Int)⟩) ⟨a0, a1, ([] : List (Bool)), (0 : Int)⟩))
noncomputable def cs42 : CSpec := { ins := [(.val (.sl 5 (.int .u8)) .s), (.val (.int .i64) .s)], outs := [((.sl 4 .bool), (.o .s)), ((.int .i64), .s), ((.int .i64), .s)], fn := fun (d : (List (Int)) × Int × Unit) K => p42 d.1 d.2.1 fun r0 r1 r2 => K ((r0, r1, r2, ()) : (List (Bool)) × Int × Int × Unit) () }
theorem h42 : Holds Try.prog 42 cs42 := by
  refine holds_of (env := envOf gam42 Try.f42.ntmps fz42) (fn := Try.f42) (code := body Try.f42.body) (rs := [4, 5, 6]) (lp := lp42) mixed (envTyOk _ _ _) gamOk42 Try.func42 (by kernel_rfl) (by kernel_rfl) (by kernel_rfl) (by kernel_rfl) (by kernel_rfl) (loopsOk_of fun c hc => ?_) () ?_
  · rw [show loopsL (body Try.f42.body) = [c42_5, c42_10] by kernel_rfl] at hc
    simp only [List.mem_cons, List.not_mem_nil, or_false] at hc
    rcases hc with rfl | rfl
    · exact ok42_5
    · exact ok42_10
  intro d R K res h
  have : evC (envOf gam42 Try.f42.ntmps fz42) lp42 (body Try.f42.body) (St.args (initS cs42.ins d)) (retK (envOf gam42 Try.f42.ntmps fz42) cs42.outs [4, 5, 6] fun r => K r ()) = cs42.fn d K := by kernel_rfl
  rw [this]; exact h
-- f35 trammel/trammelref01.U
noncomputable def fz35 : Nat → Bool
  | _ => false
noncomputable def gam35 : FuncId → Option CSpec
  | 42 => some cs42
  | _ => none
theorem gamOk35 : EnvFn Try.prog (envOf gam35 Try.f35.ntmps fz35) := by
  intro f c h
  unfold envOf gam35 at h
  simp only at h
  split at h <;> first | (cases h; done) | (cases h; exact h42)
structure X35_6 where
  f1 : Int
  f7 : List (Bool)
  f8 : Int
  f10 : Int
  f11 : Int

noncomputable def B35_6 {R : Type} (k_ret : Int → Int → Int → Option R) (k_exit_0 : Int → Int → Option R) (rec : X35_6 → Option R) (x : X35_6) : Option R :=
  let v1 := ((List.length x.f7 : Nat) : Int)
  let v2 := decide (x.f11 < v1)
  cond v2
  (cond (inB x.f11 (List.length x.f7))
  (let v3 := (List.getD x.f7 x.f11.toNat false)
  let v4 := !v3
  cond v4
  (let v5 := IntKind.i64.wrap (x.f11 + (1 : Int))
  rec ⟨x.f1, x.f7, x.f8, x.f10, v5⟩)
  (let v6 := decide (x.f11 ≥ x.f1)
  cond v6
  (k_ret (0 : Int) (0 : Int) (2 : Int))
  (let v7 := IntKind.u64.wrap x.f11
  cond (decide (0 ≤ v7))
  (let v8 := shlI .u64 (1 : Int) v7
  let v9 := IntKind.u64.wrap (x.f10 + v8)
  let v10 := IntKind.i64.wrap (x.f11 + (1 : Int))
  rec ⟨x.f1, x.f7, x.f8, v9, v10⟩) none))) none)
  (k_exit_0 x.f8 x.f10)
noncomputable def S35_6 (x : X35_6) : St := St.ofList [(1, (.v (.int .i64) .s x.f1)), (7, (.v (.sl 4 .bool) (.o .s) x.f7)), (8, (.v (.int .i64) .s x.f8)), (10, (.v (.int .u64) .s x.f10)), (11, (.v (.int .i64) .s x.f11))]
def out35_6 : Ex → List Nat | .ret => [4, 5, 6] | (.exit 0) => [8, 10] | _ => []
noncomputable def fuel35_6 (x : X35_6) : Nat := fuel64
noncomputable def lp35 : Loops := fun i R st K => match i with
  | 6 => match st 1, st 7, st 8, st 10, st 11 with
    | (.v (.int .i64) .s y1), (.v (.sl 4 .bool) (.o .s) y7), (.v (.int .i64) .s y8), (.v (.int .u64) .s y10), (.v (.int .i64) .s y11) => loopN (B35_6 (fun e4 e5 e6 => K .ret (St.ofList [(4, (.v (.int .u64) .s e4)), (5, (.v (.int .i64) .s e5)), (6, (.v (.int .i64) .s e6))])) (fun e8 e10 => K (.exit 0) (St.ofList [(8, (.v (.int .i64) .s e8)), (10, (.v (.int .u64) .s e10))]))) (fuel35_6 ⟨y1, y7, y8, y10, y11⟩) ⟨y1, y7, y8, y10, y11⟩
    | _, _, _, _, _ => none
  | _ => none
noncomputable def c35_6 : Code := match loopAt 6 (body Try.f35.body) with | some c => c | none => .skip
theorem step35_6 (R : Type) (K : Ex → St → Option R) (rec : St → Option R) (x : X35_6) : evC (envOf gam35 Try.f35.ntmps fz35) lp35 c35_6 (S35_6 x) (fun e st => match e with | .normal => rec (st.only [1, 7, 8, 10, 11]) | e => K e (st.only (out35_6 e))) = B35_6 (fun e4 e5 e6 => K .ret (St.ofList [(4, (.v (.int .u64) .s e4)), (5, (.v (.int .i64) .s e5)), (6, (.v (.int .i64) .s e6))])) (fun e8 e10 => K (.exit 0) (St.ofList [(8, (.v (.int .i64) .s e8)), (10, (.v (.int .u64) .s e10))])) (fun x => rec (S35_6 x)) x := by kernel_rfl
theorem ok35_6 : LoopOk (envOf gam35 Try.f35.ntmps fz35) lp35 c35_6 := by
  refine loopOk_of (hd := [1, 7, 8, 10, 11]) (out := out35_6) (S := S35_6) (fun _ K => B35_6 (fun e4 e5 e6 => K .ret (St.ofList [(4, (.v (.int .u64) .s e4)), (5, (.v (.int .i64) .s e5)), (6, (.v (.int .i64) .s e6))])) (fun e8 e10 => K (.exit 0) (St.ofList [(8, (.v (.int .i64) .s e8)), (10, (.v (.int .u64) .s e10))]))) fuel35_6 6 step35_6 (fun x => by kernel_rfl) (by kernel_rfl) ?_
  intro R st K r h
  unfold lp35 at h
  simp only at h
  split at h
  · rename_i y1 y7 y8 y10 y11 h1 h7 h8 h10 h11
    refine ⟨⟨y1, y7, y8, y10, y11⟩, ?_, h⟩
    show St.ofList [(1, st 1), (7, st 7), (8, st 8), (10, st 10), (11, st 11)] = _
    rw [h1, h7, h8, h10, h11]
    rfl
  · cases h
noncomputable def p35 {R : Type} (a0 : List (Int)) (a1 : Int) (K : Int → Int → Int → Option R) : Option R :=
  p42 a0 a1 fun r1 r2 r3 =>
  let v4 := r3 != (0 : Int)
  cond v4
  (K (0 : Int) (0 : Int) r3)
  (loopN (B35_6 (fun w5 w6 w7 => K w5 w6 w7) (fun w8 w9 => K w9 w8 (0 : Int))) (fuel35_6 ⟨a1, r1, r2, (0 : Int), (0 : Int)⟩) ⟨a1, r1, r2, (0 : Int), (0 : Int)⟩)
noncomputable def cs35 : CSpec := { ins := [(.val (.sl 5 (.int .u8)) .s), (.val (.int .i64) .s)], outs := [((.int .u64), .s), ((.int .i64), .s), ((.int .i64), .s)], fn := fun (d : (List (Int)) × Int × Unit) K => p35 d.1 d.2.1 fun r0 r1 r2 => K ((r0, r1, r2, ()) : Int × Int × Int × Unit) () }
theorem h35 : Holds Try.prog 35 cs35 := by
  refine holds_of (env := envOf gam35 Try.f35.ntmps fz35) (fn := Try.f35) (code := body Try.f35.body) (rs := [4, 5, 6]) (lp := lp35) mixed (envTyOk _ _ _) gamOk35 Try.func35 (by kernel_rfl) (by kernel_rfl) (by kernel_rfl) (by kernel_rfl) (by kernel_rfl) (loopsOk_of fun c hc => ?_) () ?_
  · rw [show loopsL (body Try.f35.body) = [c35_6] by kernel_rfl] at hc
    simp only [List.mem_cons, List.not_mem_nil, or_false] at hc
    rcases hc with rfl
    · exact ok35_6
  intro d R K res h
  have : evC (envOf gam35 Try.f35.ntmps fz35) lp35 (body Try.f35.body) (St.args (initS cs35.ins d)) (retK (envOf gam35 Try.f35.ntmps fz35) cs35.outs [4, 5, 6] fun r => K r ()) = cs35.fn d K := by kernel_rfl
  rw [this]; exact h
-- f25 trammel/trammelref01.Copy
noncomputable def fz25 : Nat → Bool
  | _ => false
noncomputable def gam25 : FuncId → Option CSpec
  | _ => none
theorem gamOk25 : EnvFn Try.prog (envOf gam25 Try.f25.ntmps fz25) := by
  intro f c h
  unfold envOf gam25 at h
  simp only at h
  cases h
noncomputable def p25 {R : Type} (a0 : List (Int)) (K : (List (Int)) → Option R) : Option R :=
  let v1 := List.replicate 0 (0 : Int)
  cond (decide (List.length v1 + List.length a0 ≤ most))
  (let v2 := v1 ++ a0
  K v2) none
noncomputable def cs25 : CSpec := { ins := [(.val (.sl 5 (.int .u8)) .s)], outs := [((.sl 5 (.int .u8)), (.o .s))], fn := fun (d : (List (Int)) × Unit) K => p25 d.1 fun r0 => K ((r0, ()) : (List (Int)) × Unit) () }
theorem h25 : Holds Try.prog 25 cs25 := by
  refine holds_of (env := envOf gam25 Try.f25.ntmps fz25) (fn := Try.f25) (code := body Try.f25.body) (rs := [2]) (lp := lp0) mixed (envTyOk _ _ _) gamOk25 Try.func25 (by kernel_rfl) (by kernel_rfl) (by kernel_rfl) (by kernel_rfl) (by kernel_rfl) (loopsOk_none (by kernel_rfl)) () ?_
  intro d R K res h
  have : evC (envOf gam25 Try.f25.ntmps fz25) lp0 (body Try.f25.body) (St.args (initS cs25.ins d)) (retK (envOf gam25 Try.f25.ntmps fz25) cs25.outs [2] fun r => K r ()) = cs25.fn d K := by kernel_rfl
  rw [this]; exact h
-- REFUSED f15 trammel/trammelref07.Split: append modes
-- f17 trammel/trammellaw07.told
noncomputable def fz17 : Nat → Bool
  | _ => false
noncomputable def gam17 : FuncId → Option CSpec
  | _ => none
theorem gamOk17 : EnvFn Try.prog (envOf gam17 Try.f17.ntmps fz17) := by
  intro f c h
  unfold envOf gam17 at h
  simp only at h
  cases h
structure X17_3 where
  f0 : List ((Int) × (List (Int)) × Unit)
  f3 : List ((Int) × (List (Int)) × Unit)
  f4 : Int

noncomputable def B17_3 {R : Type} (k_exit_0 : (List ((Int) × (List (Int)) × Unit)) → Option R) (rec : X17_3 → Option R) (x : X17_3) : Option R :=
  let v1 := ((List.length x.f0 : Nat) : Int)
  let v2 := decide (x.f4 < v1)
  cond v2
  (cond (inB x.f4 (List.length x.f0))
  (let v3 := List.getD x.f0 x.f4.toNat ((0 : Int), (([] : List (Int)), ()))
  cond (inB x.f4 (List.length x.f0))
  (let v4 := List.getD x.f0 x.f4.toNat ((0 : Int), (([] : List (Int)), ()))
  let v5 := List.set (List.replicate 1 ((0 : Int), (([] : List (Int)), ()))) 0 (v3.1, (v4.2.1, ()))
  cond (decide (List.length x.f3 + List.length v5 ≤ most))
  (let v6 := x.f3 ++ v5
  let v7 := IntKind.i64.wrap (x.f4 + (1 : Int))
  rec ⟨x.f0, v6, v7⟩) none) none) none)
  (k_exit_0 x.f3)
noncomputable def S17_3 (x : X17_3) : St := St.ofList [(0, (.v (.sl 39 (.pair (.int .i64) (.pair (.sl 5 (.int .u8)) .unit))) .s x.f0)), (3, (.v (.sl 38 (.pair (.int .i64) (.pair (.sl 5 (.int .u8)) .unit))) (.o .s) x.f3)), (4, (.v (.int .i64) .s x.f4))]
def out17_3 : Ex → List Nat | (.exit 0) => [3] | _ => []
noncomputable def fuel17_3 (x : X17_3) : Nat := fuel64
noncomputable def lp17 : Loops := fun i R st K => match i with
  | 3 => match st 0, st 3, st 4 with
    | (.v (.sl 39 (.pair (.int .i64) (.pair (.sl 5 (.int .u8)) .unit))) .s y0), (.v (.sl 38 (.pair (.int .i64) (.pair (.sl 5 (.int .u8)) .unit))) (.o .s) y3), (.v (.int .i64) .s y4) => loopN (B17_3 (fun e3 => K (.exit 0) (St.ofList [(3, (.v (.sl 38 (.pair (.int .i64) (.pair (.sl 5 (.int .u8)) .unit))) (.o .s) e3))]))) (fuel17_3 ⟨y0, y3, y4⟩) ⟨y0, y3, y4⟩
    | _, _, _ => none
  | _ => none
noncomputable def c17_3 : Code := match loopAt 3 (body Try.f17.body) with | some c => c | none => .skip
theorem step17_3 (R : Type) (K : Ex → St → Option R) (rec : St → Option R) (x : X17_3) : evC (envOf gam17 Try.f17.ntmps fz17) lp17 c17_3 (S17_3 x) (fun e st => match e with | .normal => rec (st.only [0, 3, 4]) | e => K e (st.only (out17_3 e))) = B17_3 (fun e3 => K (.exit 0) (St.ofList [(3, (.v (.sl 38 (.pair (.int .i64) (.pair (.sl 5 (.int .u8)) .unit))) (.o .s) e3))])) (fun x => rec (S17_3 x)) x := by kernel_rfl
theorem ok17_3 : LoopOk (envOf gam17 Try.f17.ntmps fz17) lp17 c17_3 := by
  refine loopOk_of (hd := [0, 3, 4]) (out := out17_3) (S := S17_3) (fun _ K => B17_3 (fun e3 => K (.exit 0) (St.ofList [(3, (.v (.sl 38 (.pair (.int .i64) (.pair (.sl 5 (.int .u8)) .unit))) (.o .s) e3))]))) fuel17_3 3 step17_3 (fun x => by kernel_rfl) (by kernel_rfl) ?_
  intro R st K r h
  unfold lp17 at h
  simp only at h
  split at h
  · rename_i y0 y3 y4 h0 h3 h4
    refine ⟨⟨y0, y3, y4⟩, ?_, h⟩
    show St.ofList [(0, st 0), (3, st 3), (4, st 4)] = _
    rw [h0, h3, h4]
    rfl
  · cases h
noncomputable def p17 {R : Type} (a0 : List ((Int) × (List (Int)) × Unit)) (K : (List ((Int) × (List (Int)) × Unit)) → Option R) : Option R :=
  loopN (B17_3 (fun w1 => K w1)) (fuel17_3 ⟨a0, ([] : List ((Int) × (List (Int)) × Unit)), (0 : Int)⟩) ⟨a0, ([] : List ((Int) × (List (Int)) × Unit)), (0 : Int)⟩
noncomputable def cs17 : CSpec := { ins := [(.val (.sl 39 (.pair (.int .i64) (.pair (.sl 5 (.int .u8)) .unit))) .s)], outs := [((.sl 38 (.pair (.int .i64) (.pair (.sl 5 (.int .u8)) .unit))), (.o .s))], fn := fun (d : (List ((Int) × (List (Int)) × Unit)) × Unit) K => p17 d.1 fun r0 => K ((r0, ()) : (List ((Int) × (List (Int)) × Unit)) × Unit) () }
theorem h17 : Holds Try.prog 17 cs17 := by
  refine holds_of (env := envOf gam17 Try.f17.ntmps fz17) (fn := Try.f17) (code := body Try.f17.body) (rs := [2]) (lp := lp17) mixed (envTyOk _ _ _) gamOk17 Try.func17 (by kernel_rfl) (by kernel_rfl) (by kernel_rfl) (by kernel_rfl) (by kernel_rfl) (loopsOk_of fun c hc => ?_) () ?_
  · rw [show loopsL (body Try.f17.body) = [c17_3] by kernel_rfl] at hc
    simp only [List.mem_cons, List.not_mem_nil, or_false] at hc
    rcases hc with rfl
    · exact ok17_3
  intro d R K res h
  have : evC (envOf gam17 Try.f17.ntmps fz17) lp17 (body Try.f17.body) (St.args (initS cs17.ins d)) (retK (envOf gam17 Try.f17.ntmps fz17) cs17.outs [2] fun r => K r ()) = cs17.fn d K := by kernel_rfl
  rw [this]; exact h
-- f16 trammel/trammelref07.Same
noncomputable def fz16 : Nat → Bool
  | _ => false
noncomputable def gam16 : FuncId → Option CSpec
  | 21 => some cs21
  | _ => none
theorem gamOk16 : EnvFn Try.prog (envOf gam16 Try.f16.ntmps fz16) := by
  intro f c h
  unfold envOf gam16 at h
  simp only at h
  split at h <;> first | (cases h; done) | (cases h; exact h21)
structure X16_4 where
  f0 : List ((Int) × (List (Int)) × Unit)
  f1 : List ((Int) × (List (Int)) × Unit)
  f5 : Int

noncomputable def B16_4 {R : Type} (k_ret : Bool → Option R) (k_exit_0 : Option R) (rec : X16_4 → Option R) (x : X16_4) : Option R :=
  let v1 := ((List.length x.f0 : Nat) : Int)
  let v2 := decide (x.f5 < v1)
  cond v2
  (cond (inB x.f5 (List.length x.f0))
  (let v3 := List.getD x.f0 x.f5.toNat ((0 : Int), (([] : List (Int)), ()))
  cond (inB x.f5 (List.length x.f1))
  (let v4 := List.getD x.f1 x.f5.toNat ((0 : Int), (([] : List (Int)), ()))
  let v5 := v3.1 != v4.1
  cond v5
  (k_ret false)
  (cond (inB x.f5 (List.length x.f0))
  (let v6 := List.getD x.f0 x.f5.toNat ((0 : Int), (([] : List (Int)), ()))
  cond (inB x.f5 (List.length x.f1))
  (let v7 := List.getD x.f1 x.f5.toNat ((0 : Int), (([] : List (Int)), ()))
  p21 v6.2.1 v7.2.1 fun r8 =>
  let v9 := !r8
  cond v9
  (k_ret false)
  (let v10 := IntKind.i64.wrap (x.f5 + (1 : Int))
  rec ⟨x.f0, x.f1, v10⟩)) none) none)) none) none)
  (k_exit_0)
noncomputable def S16_4 (x : X16_4) : St := St.ofList [(0, (.v (.sl 38 (.pair (.int .i64) (.pair (.sl 5 (.int .u8)) .unit))) .s x.f0)), (1, (.v (.sl 38 (.pair (.int .i64) (.pair (.sl 5 (.int .u8)) .unit))) .s x.f1)), (5, (.v (.int .i64) .s x.f5))]
def out16_4 : Ex → List Nat | .ret => [4] | (.exit 0) => [] | _ => []
noncomputable def fuel16_4 (x : X16_4) : Nat := fuel64
noncomputable def lp16 : Loops := fun i R st K => match i with
  | 4 => match st 0, st 1, st 5 with
    | (.v (.sl 38 (.pair (.int .i64) (.pair (.sl 5 (.int .u8)) .unit))) .s y0), (.v (.sl 38 (.pair (.int .i64) (.pair (.sl 5 (.int .u8)) .unit))) .s y1), (.v (.int .i64) .s y5) => loopN (B16_4 (fun e4 => K .ret (St.ofList [(4, (.v .bool .s e4))])) (K (.exit 0) (St.ofList []))) (fuel16_4 ⟨y0, y1, y5⟩) ⟨y0, y1, y5⟩
    | _, _, _ => none
  | _ => none
noncomputable def c16_4 : Code := match loopAt 4 (body Try.f16.body) with | some c => c | none => .skip
theorem step16_4 (R : Type) (K : Ex → St → Option R) (rec : St → Option R) (x : X16_4) : evC (envOf gam16 Try.f16.ntmps fz16) lp16 c16_4 (S16_4 x) (fun e st => match e with | .normal => rec (st.only [0, 1, 5]) | e => K e (st.only (out16_4 e))) = B16_4 (fun e4 => K .ret (St.ofList [(4, (.v .bool .s e4))])) (K (.exit 0) (St.ofList [])) (fun x => rec (S16_4 x)) x := by kernel_rfl
theorem ok16_4 : LoopOk (envOf gam16 Try.f16.ntmps fz16) lp16 c16_4 := by
  refine loopOk_of (hd := [0, 1, 5]) (out := out16_4) (S := S16_4) (fun _ K => B16_4 (fun e4 => K .ret (St.ofList [(4, (.v .bool .s e4))])) (K (.exit 0) (St.ofList []))) fuel16_4 4 step16_4 (fun x => by kernel_rfl) (by kernel_rfl) ?_
  intro R st K r h
  unfold lp16 at h
  simp only at h
  split at h
  · rename_i y0 y1 y5 h0 h1 h5
    refine ⟨⟨y0, y1, y5⟩, ?_, h⟩
    show St.ofList [(0, st 0), (1, st 1), (5, st 5)] = _
    rw [h0, h1, h5]
    rfl
  · cases h
noncomputable def p16 {R : Type} (a0 : List ((Int) × (List (Int)) × Unit)) (a1 : List ((Int) × (List (Int)) × Unit)) (K : Bool → Option R) : Option R :=
  let v1 := ((List.length a0 : Nat) : Int)
  let v2 := ((List.length a1 : Nat) : Int)
  let v3 := v1 != v2
  cond v3
  (K false)
  (loopN (B16_4 (fun w4 => K w4) (K true)) (fuel16_4 ⟨a0, a1, (0 : Int)⟩) ⟨a0, a1, (0 : Int)⟩)
noncomputable def cs16 : CSpec := { ins := [(.val (.sl 38 (.pair (.int .i64) (.pair (.sl 5 (.int .u8)) .unit))) .s), (.val (.sl 38 (.pair (.int .i64) (.pair (.sl 5 (.int .u8)) .unit))) .s)], outs := [(.bool, .s)], fn := fun (d : (List ((Int) × (List (Int)) × Unit)) × (List ((Int) × (List (Int)) × Unit)) × Unit) K => p16 d.1 d.2.1 fun r0 => K ((r0, ()) : Bool × Unit) () }
theorem h16 : Holds Try.prog 16 cs16 := by
  refine holds_of (env := envOf gam16 Try.f16.ntmps fz16) (fn := Try.f16) (code := body Try.f16.body) (rs := [4]) (lp := lp16) mixed (envTyOk _ _ _) gamOk16 Try.func16 (by kernel_rfl) (by kernel_rfl) (by kernel_rfl) (by kernel_rfl) (by kernel_rfl) (loopsOk_of fun c hc => ?_) () ?_
  · rw [show loopsL (body Try.f16.body) = [c16_4] by kernel_rfl] at hc
    simp only [List.mem_cons, List.not_mem_nil, or_false] at hc
    rcases hc with rfl
    · exact ok16_4
  intro d R K res h
  have : evC (envOf gam16 Try.f16.ntmps fz16) lp16 (body Try.f16.body) (St.args (initS cs16.ins d)) (retK (envOf gam16 Try.f16.ntmps fz16) cs16.outs [4] fun r => K r ()) = cs16.fn d K := by kernel_rfl
  rw [this]; exact h
-- REFUSED f5 trammel/trammellaw07.SectSplits: no contract of f13
-- f18 trammel/trammelref07.Short
noncomputable def fz18 : Nat → Bool
  | _ => false
noncomputable def gam18 : FuncId → Option CSpec
  | _ => none
theorem gamOk18 : EnvFn Try.prog (envOf gam18 Try.f18.ntmps fz18) := by
  intro f c h
  unfold envOf gam18 at h
  simp only at h
  cases h
structure X18_5 where
  f0 : List ((Int) × (List (Int)) × Unit)
  f3 : Int
  f4 : Int

noncomputable def B18_5 {R : Type} (k_ret : Bool → Option R) (k_exit_0 : Int → Option R) (rec : X18_5 → Option R) (x : X18_5) : Option R :=
  let v1 := ((List.length x.f0 : Nat) : Int)
  let v2 := decide (x.f4 < v1)
  cond v2
  (cond (inB x.f4 (List.length x.f0))
  (let v3 := List.getD x.f0 x.f4.toNat ((0 : Int), (([] : List (Int)), ()))
  let v4 := ((List.length v3.2.1 : Nat) : Int)
  let v5 := decide (v4 > (70000 : Int))
  cond v5
  (k_ret false)
  (cond (inB x.f4 (List.length x.f0))
  (let v6 := List.getD x.f0 x.f4.toNat ((0 : Int), (([] : List (Int)), ()))
  let v7 := ((List.length v6.2.1 : Nat) : Int)
  let v8 := IntKind.i64.wrap (x.f3 + v7)
  let v9 := IntKind.i64.wrap (x.f4 + (1 : Int))
  rec ⟨x.f0, v8, v9⟩) none)) none)
  (k_exit_0 x.f3)
noncomputable def S18_5 (x : X18_5) : St := St.ofList [(0, (.v (.sl 38 (.pair (.int .i64) (.pair (.sl 5 (.int .u8)) .unit))) .s x.f0)), (3, (.v (.int .i64) .s x.f3)), (4, (.v (.int .i64) .s x.f4))]
def out18_5 : Ex → List Nat | .ret => [2] | (.exit 0) => [3] | _ => []
noncomputable def fuel18_5 (x : X18_5) : Nat := fuel64
noncomputable def lp18 : Loops := fun i R st K => match i with
  | 5 => match st 0, st 3, st 4 with
    | (.v (.sl 38 (.pair (.int .i64) (.pair (.sl 5 (.int .u8)) .unit))) .s y0), (.v (.int .i64) .s y3), (.v (.int .i64) .s y4) => loopN (B18_5 (fun e2 => K .ret (St.ofList [(2, (.v .bool .s e2))])) (fun e3 => K (.exit 0) (St.ofList [(3, (.v (.int .i64) .s e3))]))) (fuel18_5 ⟨y0, y3, y4⟩) ⟨y0, y3, y4⟩
    | _, _, _ => none
  | _ => none
noncomputable def c18_5 : Code := match loopAt 5 (body Try.f18.body) with | some c => c | none => .skip
theorem step18_5 (R : Type) (K : Ex → St → Option R) (rec : St → Option R) (x : X18_5) : evC (envOf gam18 Try.f18.ntmps fz18) lp18 c18_5 (S18_5 x) (fun e st => match e with | .normal => rec (st.only [0, 3, 4]) | e => K e (st.only (out18_5 e))) = B18_5 (fun e2 => K .ret (St.ofList [(2, (.v .bool .s e2))])) (fun e3 => K (.exit 0) (St.ofList [(3, (.v (.int .i64) .s e3))])) (fun x => rec (S18_5 x)) x := by kernel_rfl
theorem ok18_5 : LoopOk (envOf gam18 Try.f18.ntmps fz18) lp18 c18_5 := by
  refine loopOk_of (hd := [0, 3, 4]) (out := out18_5) (S := S18_5) (fun _ K => B18_5 (fun e2 => K .ret (St.ofList [(2, (.v .bool .s e2))])) (fun e3 => K (.exit 0) (St.ofList [(3, (.v (.int .i64) .s e3))]))) fuel18_5 5 step18_5 (fun x => by kernel_rfl) (by kernel_rfl) ?_
  intro R st K r h
  unfold lp18 at h
  simp only at h
  split at h
  · rename_i y0 y3 y4 h0 h3 h4
    refine ⟨⟨y0, y3, y4⟩, ?_, h⟩
    show St.ofList [(0, st 0), (3, st 3), (4, st 4)] = _
    rw [h0, h3, h4]
    rfl
  · cases h
noncomputable def p18 {R : Type} (a0 : List ((Int) × (List (Int)) × Unit)) (K : Bool → Option R) : Option R :=
  let v1 := ((List.length a0 : Nat) : Int)
  let v2 := decide (v1 > (40 : Int))
  cond v2
  (K false)
  (loopN (B18_5 (fun w3 => K w3) (fun w4 => let v5 := decide (w4 ≤ (80000 : Int))
  K v5)) (fuel18_5 ⟨a0, (0 : Int), (0 : Int)⟩) ⟨a0, (0 : Int), (0 : Int)⟩)
noncomputable def cs18 : CSpec := { ins := [(.val (.sl 38 (.pair (.int .i64) (.pair (.sl 5 (.int .u8)) .unit))) .s)], outs := [(.bool, .s)], fn := fun (d : (List ((Int) × (List (Int)) × Unit)) × Unit) K => p18 d.1 fun r0 => K ((r0, ()) : Bool × Unit) () }
theorem h18 : Holds Try.prog 18 cs18 := by
  refine holds_of (env := envOf gam18 Try.f18.ntmps fz18) (fn := Try.f18) (code := body Try.f18.body) (rs := [2]) (lp := lp18) mixed (envTyOk _ _ _) gamOk18 Try.func18 (by kernel_rfl) (by kernel_rfl) (by kernel_rfl) (by kernel_rfl) (by kernel_rfl) (loopsOk_of fun c hc => ?_) () ?_
  · rw [show loopsL (body Try.f18.body) = [c18_5] by kernel_rfl] at hc
    simp only [List.mem_cons, List.not_mem_nil, or_false] at hc
    rcases hc with rfl
    · exact ok18_5
  intro d R K res h
  have : evC (envOf gam18 Try.f18.ntmps fz18) lp18 (body Try.f18.body) (St.args (initS cs18.ins d)) (retK (envOf gam18 Try.f18.ntmps fz18) cs18.outs [2] fun r => K r ()) = cs18.fn d K := by kernel_rfl
  rw [this]; exact h
-- f37 trammel/trammelref01.PutU
noncomputable def fz37 : Nat → Bool
  | _ => false
noncomputable def gam37 : FuncId → Option CSpec
  | _ => none
theorem gamOk37 : EnvFn Try.prog (envOf gam37 Try.f37.ntmps fz37) := by
  intro f c h
  unfold envOf gam37 at h
  simp only at h
  cases h
structure X37_2 where
  f0 : Int
  f3 : List (Int)

noncomputable def B37_2 {R : Type} (k_ret : (List (Int)) → Option R) (rec : X37_2 → Option R) (x : X37_2) : Option R :=
  cond ((128 : Int) != 0)
  (let v1 := Int.tmod x.f0 (128 : Int)
  let v2 := IntKind.u8.wrap v1
  cond ((128 : Int) != 0)
  (let v3 := IntKind.u64.wrap (Int.tdiv x.f0 (128 : Int))
  let v4 := v3 == (0 : Int)
  cond v4
  (let v5 := List.set (List.replicate 1 (0 : Int)) 0 v2
  cond (decide (List.length x.f3 + List.length v5 ≤ most))
  (let v6 := x.f3 ++ v5
  k_ret v6) none)
  (let v7 := IntKind.u8.wrap (v2 + (128 : Int))
  let v8 := List.set (List.replicate 1 (0 : Int)) 0 v7
  cond (decide (List.length x.f3 + List.length v8 ≤ most))
  (let v9 := x.f3 ++ v8
  rec ⟨v3, v9⟩) none)) none) none
noncomputable def S37_2 (x : X37_2) : St := St.ofList [(0, (.v (.int .u64) .s x.f0)), (3, (.v (.sl 5 (.int .u8)) (.o .s) x.f3))]
def out37_2 : Ex → List Nat | .ret => [2] | _ => []
noncomputable def fuel37_2 (x : X37_2) : Nat := fuel64
noncomputable def lp37 : Loops := fun i R st K => match i with
  | 2 => match st 0, st 3 with
    | (.v (.int .u64) .s y0), (.v (.sl 5 (.int .u8)) (.o .s) y3) => loopN (B37_2 (fun e2 => K .ret (St.ofList [(2, (.v (.sl 5 (.int .u8)) (.o .s) e2))]))) (fuel37_2 ⟨y0, y3⟩) ⟨y0, y3⟩
    | _, _ => none
  | _ => none
noncomputable def c37_2 : Code := match loopAt 2 (body Try.f37.body) with | some c => c | none => .skip
theorem step37_2 (R : Type) (K : Ex → St → Option R) (rec : St → Option R) (x : X37_2) : evC (envOf gam37 Try.f37.ntmps fz37) lp37 c37_2 (S37_2 x) (fun e st => match e with | .normal => rec (st.only [0, 3]) | e => K e (st.only (out37_2 e))) = B37_2 (fun e2 => K .ret (St.ofList [(2, (.v (.sl 5 (.int .u8)) (.o .s) e2))])) (fun x => rec (S37_2 x)) x := by kernel_rfl
theorem ok37_2 : LoopOk (envOf gam37 Try.f37.ntmps fz37) lp37 c37_2 := by
  refine loopOk_of (hd := [0, 3]) (out := out37_2) (S := S37_2) (fun _ K => B37_2 (fun e2 => K .ret (St.ofList [(2, (.v (.sl 5 (.int .u8)) (.o .s) e2))]))) fuel37_2 2 step37_2 (fun x => by kernel_rfl) (by kernel_rfl) ?_
  intro R st K r h
  unfold lp37 at h
  simp only at h
  split at h
  · rename_i y0 y3 h0 h3
    refine ⟨⟨y0, y3⟩, ?_, h⟩
    show St.ofList [(0, st 0), (3, st 3)] = _
    rw [h0, h3]
    rfl
  · cases h
noncomputable def p37 {R : Type} (a0 : Int) (K : (List (Int)) → Option R) : Option R :=
  loopN (B37_2 (fun w1 => K w1)) (fuel37_2 ⟨a0, ([] : List (Int))⟩) ⟨a0, ([] : List (Int))⟩
noncomputable def cs37 : CSpec := { ins := [(.val (.int .u64) .s)], outs := [((.sl 5 (.int .u8)), (.o .s))], fn := fun (d : Int × Unit) K => p37 d.1 fun r0 => K ((r0, ()) : (List (Int)) × Unit) () }
theorem h37 : Holds Try.prog 37 cs37 := by
  refine holds_of (env := envOf gam37 Try.f37.ntmps fz37) (fn := Try.f37) (code := body Try.f37.body) (rs := [2]) (lp := lp37) mixed (envTyOk _ _ _) gamOk37 Try.func37 (by kernel_rfl) (by kernel_rfl) (by kernel_rfl) (by kernel_rfl) (by kernel_rfl) (loopsOk_of fun c hc => ?_) () ?_
  · rw [show loopsL (body Try.f37.body) = [c37_2] by kernel_rfl] at hc
    simp only [List.mem_cons, List.not_mem_nil, or_false] at hc
    rcases hc with rfl
    · exact ok37_2
  intro d R K res h
  have : evC (envOf gam37 Try.f37.ntmps fz37) lp37 (body Try.f37.body) (St.args (initS cs37.ins d)) (retK (envOf gam37 Try.f37.ntmps fz37) cs37.outs [2] fun r => K r ()) = cs37.fn d K := by kernel_rfl
  rw [this]; exact h
-- REFUSED f20 trammel/trammelref07.Join: convert of a slice to a slice (markStringish)
-- REFUSED f6 trammel/trammellaw07.SectJoins: no contract of f13
-- REFUSED f7 trammel/trammellaw07.SectCut: no contract of f13
-- REFUSED f8 trammel/trammellaw07.SectMore: no contract of f13
-- f23 trammel/trammelref02.Name
noncomputable def fz23 : Nat → Bool
  | _ => false
noncomputable def gam23 : FuncId → Option CSpec
  | 12 => some cs12
  | 35 => some cs35
  | _ => none
theorem gamOk23 : EnvFn Try.prog (envOf gam23 Try.f23.ntmps fz23) := by
  intro f c h
  unfold envOf gam23 at h
  simp only at h
  split at h <;> first | (cases h; done) | (cases h; exact h12) | (cases h; exact h35)
noncomputable def p23 {R : Type} (a0 : List (Int)) (K : (List UInt8) → Int → Int → Option R) : Option R :=
  p35 a0 (32 : Int) fun r1 r2 r3 =>
  let v4 := r3 != (0 : Int)
  cond v4
  (K ([] : List UInt8) (0 : Int) r3)
  (cond (inR r2 ((List.length a0 : Nat) : Int) (List.length a0))
  (let v5 := rng a0 r2 ((List.length a0 : Nat) : Int)
  let v6 := ((List.length v5 : Nat) : Int)
  let v7 := IntKind.u64.wrap v6
  let v8 := decide (r1 > v7)
  cond v8
  (K ([] : List UInt8) (0 : Int) (1 : Int))
  (cond (inR (0 : Int) r1 (List.length v5))
  (let v9 := rng v5 (0 : Int) r1
  let v10 := u8s v9
  p12 v10 fun r11 =>
  let v12 := !r11
  cond v12
  (K ([] : List UInt8) (0 : Int) (2 : Int))
  (let v13 := decide (r1 > (64 : Int))
  cond v13
  (K ([] : List UInt8) (0 : Int) (4 : Int))
  (let v14 := IntKind.i64.wrap r1
  let v15 := IntKind.i64.wrap (r2 + v14)
  K v10 v15 (0 : Int)))) none)) none)
noncomputable def cs23 : CSpec := { ins := [(.val (.sl 5 (.int .u8)) .s)], outs := [(.str, .s), ((.int .i64), .s), ((.int .i64), .s)], fn := fun (d : (List (Int)) × Unit) K => p23 d.1 fun r0 r1 r2 => K ((r0, r1, r2, ()) : (List UInt8) × Int × Int × Unit) () }
theorem h23 : Holds Try.prog 23 cs23 := by
  refine holds_of (env := envOf gam23 Try.f23.ntmps fz23) (fn := Try.f23) (code := body Try.f23.body) (rs := [2, 3, 4]) (lp := lp0) mixed (envTyOk _ _ _) gamOk23 Try.func23 (by kernel_rfl) (by kernel_rfl) (by kernel_rfl) (by kernel_rfl) (by kernel_rfl) (loopsOk_none (by kernel_rfl)) () ?_
  intro d R K res h
  have : evC (envOf gam23 Try.f23.ntmps fz23) lp0 (body Try.f23.body) (St.args (initS cs23.ins d)) (retK (envOf gam23 Try.f23.ntmps fz23) cs23.outs [2, 3, 4] fun r => K r ()) = cs23.fn d K := by kernel_rfl
  rw [this]; exact h
set_option maxHeartbeats 400000 in
theorem grow_small (A : Option Addr) (len cap : Nat) (n : Int) (w : World) (h0 : 0 ≤ n) (hn : (len : Int) + n ≤ 4294967296) (hl : len ≤ cap) (hcap : (cap : Int) ≤ 9223372036854775807) (h : n ≤ (cap : Int) - len) :
    Calls Try.prog 43 #[.slice A len cap, .int .i64 n] w fun e w' => e = .returned (.slice A len cap) ∧ w' = w := by
  go_enter Try.func43, Try.ntmps43
  go_wp2
  go_ret
  exact ⟨rfl, rfl⟩
set_option maxHeartbeats 1000000 in
theorem grow_some (a : Addr) (len cap m : Nat) (n : Int) (w : World) (h0 : 0 ≤ n) (hn : (len : Int) + n ≤ 4294967296) (hl : len ≤ cap) (hcap : (cap : Int) ≤ 9223372036854775807) (h : (cap : Int) - len < n) (hm : n - ((cap : Int) - len) = m) (xs : List Value) (hfo : (loadCellsFrom a 0 cap #[]).run Try.prog w.drew = .ok xs.toArray w.drew) :
    Calls Try.prog 43 #[.slice (some a) len cap, .int .i64 n] w fun e w'' => e = .returned (.slice (some ⟨w.heap.size, 0, none⟩) len (grownCap w (cap + m) cap 5)) ∧
      w'' = w.drew.alloc (.cells (xs.toArray ++ (Builtin.zeroCells #[.int .u8 0] m ++ Builtin.zeroCells #[.int .u8 0] (grownCap w (cap + m) cap 5 - (cap + m)))) 5) := by
  have hb5 : Try.t5.bytes = 1 := by kernel_rfl
  have hs5 : Try.t5.size = 1 := by kernel_rfl
  have hnx := growslice_fits (need := cap + m) (old := cap) (bytes := 1) (by omega) (by omega)
  have hge := grownCap_ge w (cap + m) cap 5
  unfold grownCap at hge ⊢
  have hlc : len ≤ (Question.appendCap (cap + m) cap 5).cut (w.tape w.drawn (Question.appendCap (cap + m) cap 5)) := by omega
  generalize hcc : (Question.appendCap (cap + m) cap 5).cut (w.tape w.drawn (Question.appendCap (cap + m) cap 5)) = cc at *
  go_enter Try.func43, Try.ntmps43
  go_wp2
  all_goals (go_ret; exact ⟨rfl, by simp⟩)
set_option maxHeartbeats 1000000 in
theorem grow_none (len cap m : Nat) (n : Int) (w : World) (h0 : 0 ≤ n) (hn : (len : Int) + n ≤ 4294967296) (hl : len ≤ cap) (hcap : (cap : Int) ≤ 9223372036854775807) (h : (cap : Int) - len < n) (hm : n - ((cap : Int) - len) = m) :
    Calls Try.prog 43 #[.slice none len cap, .int .i64 n] w fun e w'' => e = .returned (.slice (some ⟨w.heap.size, 0, none⟩) len (grownCap w (cap + m) cap 5)) ∧
      w'' = w.drew.alloc (.cells (#[] ++ (Builtin.zeroCells #[.int .u8 0] m ++ Builtin.zeroCells #[.int .u8 0] (grownCap w (cap + m) cap 5 - (cap + m)))) 5) := by
  have hb5 : Try.t5.bytes = 1 := by kernel_rfl
  have hs5 : Try.t5.size = 1 := by kernel_rfl
  have hnx := growslice_fits (need := cap + m) (old := cap) (bytes := 1) (by omega) (by omega)
  have hge := grownCap_ge w (cap + m) cap 5
  unfold grownCap at hge ⊢
  have hlc : len ≤ (Question.appendCap (cap + m) cap 5).cut (w.tape w.drawn (Question.appendCap (cap + m) cap 5)) := by omega
  generalize hcc : (Question.appendCap (cap + m) cap 5).cut (w.tape w.drawn (Question.appendCap (cap + m) cap 5)) = cc at *
  go_enter Try.func43, Try.ntmps43
  go_wp2
  all_goals (go_ret; exact ⟨rfl, by simp⟩)

noncomputable def p43 {R : Type} (a0 : List Int) (a1 : Int) (K : List Int → Option R) : Option R := cond (decide (0 ≤ a1 ∧ (a0.length : Int) + a1 ≤ 4294967296)) (K a0) none
noncomputable def cs43 : CSpec := { ins := [(.val (.sl 5 (.int .u8)) (.o .s)), (.val (.int .i64) .s)], outs := [((.sl 5 (.int .u8)), (.o .s))], fn := fun (d : (List Int) × Int × Unit) K => p43 d.1 d.2.1 fun r0 => K ((r0, ()) : (List Int) × Unit) () }

theorem grow_rep {F : Blks} {w : World} {x : List Int} {A : Option Addr} {cap m : Nat} {fp : Blks} (hr : rep F w (.sl 5 (.int .u8)) (.o .s) x (cv (.slice A x.length cap)) fp) (xs : List Value) (c : Nat) (hc : cap + m ≤ c) (hcm : c ≤ 2 ^ 63 - 1) (hl : xs.length = cap) (hle : x.length ≤ cap)
    (hx : ∀ a, A = some a → ∀ j, j < x.length → xs.getD j undef = rowW w a.block (a.off + j) 0) (hA : A = none → x = []) {w' : World}
    (hw : w' = w.drew.alloc (.cells (xs.toArray ++ (Builtin.zeroCells #[.int .u8 0] m ++ Builtin.zeroCells #[.int .u8 0] (c - (cap + m)))) 5)) :
    rep F w' (.sl 5 (.int .u8)) (.o .s) x (cv (.slice (some ⟨w.heap.size, 0, none⟩) x.length c)) (fun b => b = w.heap.size ∨ ∃ i, (fun (_ : Nat) (_ : Nat) => False) i b) := by
  subst hw
  have hnew := alloc_new (w := w.drew) (ob := .cells (xs.toArray ++ (Builtin.zeroCells #[.int .u8 0] m ++ Builtin.zeroCells #[.int .u8 0] (c - (cap + m)))) 5)
  refine row_rep (t := .int .u8) (z := x) (fs := fun _ _ => False) hnew (Nat.le_refl 0) ?_ (by show x.length ≤ c; omega) hcm ⟨fun _ _ _ _ hb => hb.elim⟩ (fun _ _ hb => hb.elim) fun i hi => ?_
  · simp [Builtin.zeroCells, hl, Ty.size]
    omega
  · have hi' : i < x.length := hi
    have hg : (xs.toArray ++ (Builtin.zeroCells #[.int .u8 0] m ++ Builtin.zeroCells #[.int .u8 0] (c - (cap + m)))).getD (i * Ty.size (.int .u8) + 0) undef = xs.getD i undef := by
      simp only [Ty.size, Nat.mul_one, Nat.add_zero, Array.getD_eq_getD_getElem?, List.getD_eq_getElem?_getD]
      rw [Array.getElem?_append_left (by simp; omega)]
      simp
    cases A with
    | none => rw [hA rfl] at hi'; simp at hi'
    | some a =>
      simp only [rep] at hr
      obtain ⟨A', cap', r1, r2, r3, r4, r5⟩ := hr
      have r1' : Value.slice (some a) x.length cap = .slice A' x.length cap' := r1
      cases r1'
      obtain ⟨_, _, _, fs, _, _, r6⟩ := r5 a rfl
      have r7 := r6 i hi
      show _ ∧ _
      have r8 : rowW w a.block (a.off + i * Ty.size (.int .u8)) 0 = .int .u8 (x.getD i 0) ∧ IntKind.u8.has (x.getD i 0) := r7
      refine ⟨hg.trans ((hx a rfl i hi').trans ?_), r8.2⟩
      have r9 := r8.1
      simp only [Ty.size, Nat.mul_one] at r9
      exact r9

theorem h43 : Holds Try.prog 43 cs43 := by
  refine ⟨⟨Try.f43, _, Try.func43, by kernel_rfl, rfl⟩, ?_⟩
  intro F w (d : List Int × Int × Unit) vs fps R K res hFs hd hfp hargs hcall
  obtain ⟨x, n, u⟩ := d
  obtain ⟨v0, vs1, rfl, i0, _, r0, v1, vs2, rfl, i1, _, r1, h2⟩ := hargs
  have h2 : vs2 = [] := h2
  subst h2
  obtain ⟨e1, k1⟩ := rep_int i1 (by intro h; cases h) r1
  subst e1
  have hcall' : cond (decide (0 ≤ n ∧ ((x : List Int).length : Int) + n ≤ 4294967296)) (K (x, ()) ()) none = some res := hcall
  by_cases hb : 0 ≤ n ∧ ((x : List Int).length : Int) + n ≤ 4294967296
  · rw [decide_eq_true hb] at hcall'
    have hK : K (x, ()) () = some res := hcall'
    have hr0 := r0
    simp only [rep] at r0
    obtain ⟨A, cap, q1, q2, q3, q4, q5⟩ := r0
    have hv0 : v0 = .slice A (List.length (α := Int) x) cap := by
      have h2 : v0 = valOf (.sl 5 (.int .u8)) (cv v0) := i0
      rw [h2]
      simp only [valOf, Ty.agg, Bool.false_eq_true, if_false]
      exact q1
    subst hv0
    have q2' : List.length (α := Int) x ≤ cap := q2
    by_cases hs : n ≤ (cap : Int) - List.length (α := Int) x
    · refine (grow_small A _ cap n w hb.1 hb.2 q2' (by omega) hs).mono fun e w' he => ?_
      obtain ⟨rfl, rfl⟩ := he
      refine ⟨_, (x, ()), (), F, fps 0, rfl, hK, fun _ hb => hb, Grew.refl _, fun _ _ _ => rfl, ⟨fun _ => i0, hr0⟩, fun b hb => ⟨(hfp 0 b hb).1, (hfp 0 b hb).2, .inl ⟨0, hb⟩⟩, fun b hb => ⟨hFs b hb, .inl hb⟩⟩
    · obtain ⟨m, hm⟩ : ∃ m : Nat, n - ((cap : Int) - List.length (α := Int) x) = m := ⟨_, (Int.toNat_of_nonneg (by omega)).symm⟩
      have hgc := grownCap_ge w (cap + m) cap 5
      have hmx := grownCap_le_maxLen w (cap + m) cap 5 (by unfold maxLen; omega)
      have hmx' : grownCap w (cap + m) cap 5 ≤ 2 ^ 63 - 1 := hmx
      have fin : ∀ (xs : List Value), xs.length = cap → (∀ a, A = some a → ∀ j, j < List.length (α := Int) x → xs.getD j undef = rowW w a.block (a.off + j) 0) → (A = none → (x : List Int) = []) → ∀ (e : Ending) (w' : World),
          (e = .returned (.slice (some ⟨w.heap.size, 0, none⟩) (List.length (α := Int) x) (grownCap w (cap + m) cap 5)) ∧ w' = w.drew.alloc (.cells (xs.toArray ++ (Builtin.zeroCells #[.int .u8 0] m ++ Builtin.zeroCells #[.int .u8 0] (grownCap w (cap + m) cap 5 - (cap + m)))) 5)) →
          ∃ v ro rb, ∃ F' fo : Blks, e = .returned v ∧ K ro rb = some res ∧ (∀ b, F b → F' b) ∧ Grew w w' ∧ (∀ b, b < w.heap.size → (∀ i, ¬ fps i b) → Same w w' b) ∧
            ResR F' w' v fo (resS cs43.outs ro) ∧ (∀ b, fo b → ¬ F' b ∧ b < w'.heap.size ∧ ((∃ i, fps i b) ∨ w.heap.size ≤ b)) ∧ (∀ b, F' b → b < w'.heap.size ∧ (F b ∨ (∃ i, fps i b) ∨ w.heap.size ≤ b)) := by
        intro xs hl hx hA e w' he
        obtain ⟨rfl, rfl⟩ := he
        have hsz : (w.drew.alloc (.cells (xs.toArray ++ (Builtin.zeroCells #[.int .u8 0] m ++ Builtin.zeroCells #[.int .u8 0] (grownCap w (cap + m) cap 5 - (cap + m)))) 5)).heap.size = w.heap.size + 1 := World.size_alloc w.drew _
        have hrep := grow_rep (m := m) hr0 xs _ hgc hmx' hl q2' hx hA rfl
        refine ⟨_, (x, ()), (), F, _, rfl, hK, fun _ hb => hb, ⟨⟨rfl, rfl, rfl⟩, by omega⟩, fun b hb _ => alloc_old (w := w.drew) hb, ⟨fun _ => isV_sl, hrep⟩, fun b hb => ?_, fun b hb => ⟨?_, .inl hb⟩⟩
        · rcases hb with hb | ⟨_, hb⟩
          · subst hb
            exact ⟨fun hc => Nat.lt_irrefl _ (hFs _ hc), by omega, .inr (Nat.le_refl _)⟩
          · exact hb.elim
        · have := hFs b hb
          omega
      cases A with
      | none =>
        have hc0 : cap = 0 := q4 rfl
        subst hc0
        refine (grow_none _ 0 m n w hb.1 hb.2 q2' (by omega) (by omega) hm).mono fun e w' he => fin [] rfl nofun (fun _ => List.eq_nil_of_length_eq_zero (Nat.le_zero.1 q2')) e w' he
      | some a =>
        obtain ⟨hsp, p1, p2, _⟩ := q5 a rfl
        obtain ⟨b, k, sp⟩ := a
        simp only at hsp
        subst hsp
        simp only [Ty.size, Nat.mul_one] at p1 p2
        have hld := run_loadCellsFrom (P := Try.prog) (w := w.drew) ⟨b, k, none⟩ (fun j => rowW w b (k + j) 0) cap 0 #[] (fun j hj => by
          rw [World.cell?_drew, addr_add, cell_row p2 (by omega)]
          simp only [rowW, Nat.zero_add, rowOf, Nat.add_zero])
        refine (grow_some _ _ cap m n w hb.1 hb.2 q2' (by omega) (by omega) hm ((List.range cap).map fun j => rowW w b (k + j) 0) ?_).mono fun e w' he => fin _ (by simp) (fun a ha j hj => ?_) nofun e w' he
        · rw [hld]
          simp
        · cases ha
          have : j < cap := by omega
          simp [List.getD, this]
  · rw [decide_eq_false hb] at hcall'
    cases hcall'

-- f38 slices.Concat[[]byte,byte]
noncomputable def fz38 : Nat → Bool
  | _ => false
noncomputable def gam38 : FuncId → Option CSpec
  | 43 => some cs43
  | _ => none
theorem gamOk38 : EnvFn Try.prog (envOf gam38 Try.f38.ntmps fz38) := by
  intro f c h
  unfold envOf gam38 at h
  simp only at h
  split at h <;> first | (cases h; done) | (cases h; exact h43)
structure X38_11 where
  f6 : List (Int)
  f25 : List (List (Int))
  f26 : Int
  f27 : Int

noncomputable def B38_11 {R : Type} (k_exit_2 : (List (Int)) → Option R) (rec : X38_11 → Option R) (x : X38_11) : Option R :=
  let v1 := decide (x.f27 < x.f26)
  cond v1
  (cond (inB x.f27 (List.length x.f25))
  (let v2 := List.getD x.f25 x.f27.toNat ([] : List (Int))
  cond (decide (List.length x.f6 + List.length v2 ≤ most))
  (let v3 := x.f6 ++ v2
  let v4 := IntKind.i64.wrap (x.f27 + (1 : Int))
  rec ⟨v3, x.f25, x.f26, v4⟩) none) none)
  (k_exit_2 x.f6)
noncomputable def S38_11 (x : X38_11) : St := St.ofList [(6, (.v (.sl 5 (.int .u8)) (.o .s) x.f6)), (25, (.v (.sl 25 (.sl 5 (.int .u8))) .s x.f25)), (26, (.v (.int .i64) .s x.f26)), (27, (.v (.int .i64) .s x.f27))]
def out38_11 : Ex → List Nat | (.exit 2) => [6] | _ => []
noncomputable def fuel38_11 (x : X38_11) : Nat := fuel64
structure X38_3 where
  f0 : List (List (Int))
  f3 : Int
  f9 : List (List (Int))
  f10 : Int
  f11 : Int

noncomputable def B38_3 {R : Type} (k_exit_0 : (List (List (Int))) → Int → Option R) (rec : X38_3 → Option R) (x : X38_3) : Option R :=
  let v1 := decide (x.f11 < x.f10)
  cond v1
  (cond (inB x.f11 (List.length x.f9))
  (let v2 := List.getD x.f9 x.f11.toNat ([] : List (Int))
  let v3 := ((List.length v2 : Nat) : Int)
  let v4 := IntKind.i64.wrap (x.f3 + v3)
  let v5 := decide (v4 < (0 : Int))
  cond v5
  (none)
  (let v6 := IntKind.i64.wrap (x.f11 + (1 : Int))
  rec ⟨x.f0, v4, x.f9, x.f10, v6⟩)) none)
  (k_exit_0 x.f0 x.f3)
noncomputable def S38_3 (x : X38_3) : St := St.ofList [(0, (.v (.sl 25 (.sl 5 (.int .u8))) .s x.f0)), (3, (.v (.int .i64) .s x.f3)), (9, (.v (.sl 25 (.sl 5 (.int .u8))) .s x.f9)), (10, (.v (.int .i64) .s x.f10)), (11, (.v (.int .i64) .s x.f11))]
def out38_3 : Ex → List Nat | (.exit 0) => [0, 3] | _ => []
noncomputable def fuel38_3 (x : X38_3) : Nat := fuel64
noncomputable def lp38 : Loops := fun i R st K => match i with
  | 11 => match st 6, st 25, st 26, st 27 with
    | (.v (.sl 5 (.int .u8)) (.o .s) y6), (.v (.sl 25 (.sl 5 (.int .u8))) .s y25), (.v (.int .i64) .s y26), (.v (.int .i64) .s y27) => loopN (B38_11 (fun e6 => K (.exit 2) (St.ofList [(6, (.v (.sl 5 (.int .u8)) (.o .s) e6))]))) (fuel38_11 ⟨y6, y25, y26, y27⟩) ⟨y6, y25, y26, y27⟩
    | _, _, _, _ => none
  | 3 => match st 0, st 3, st 9, st 10, st 11 with
    | (.v (.sl 25 (.sl 5 (.int .u8))) .s y0), (.v (.int .i64) .s y3), (.v (.sl 25 (.sl 5 (.int .u8))) .s y9), (.v (.int .i64) .s y10), (.v (.int .i64) .s y11) => loopN (B38_3 (fun e0 e3 => K (.exit 0) (St.ofList [(0, (.v (.sl 25 (.sl 5 (.int .u8))) .s e0)), (3, (.v (.int .i64) .s e3))]))) (fuel38_3 ⟨y0, y3, y9, y10, y11⟩) ⟨y0, y3, y9, y10, y11⟩
    | _, _, _, _, _ => none
  | _ => none
noncomputable def c38_11 : Code := match loopAt 11 (body Try.f38.body) with | some c => c | none => .skip
theorem step38_11 (R : Type) (K : Ex → St → Option R) (rec : St → Option R) (x : X38_11) : evC (envOf gam38 Try.f38.ntmps fz38) lp38 c38_11 (S38_11 x) (fun e st => match e with | .normal => rec (st.only [6, 25, 26, 27]) | e => K e (st.only (out38_11 e))) = B38_11 (fun e6 => K (.exit 2) (St.ofList [(6, (.v (.sl 5 (.int .u8)) (.o .s) e6))])) (fun x => rec (S38_11 x)) x := by kernel_rfl
theorem ok38_11 : LoopOk (envOf gam38 Try.f38.ntmps fz38) lp38 c38_11 := by
  refine loopOk_of (hd := [6, 25, 26, 27]) (out := out38_11) (S := S38_11) (fun _ K => B38_11 (fun e6 => K (.exit 2) (St.ofList [(6, (.v (.sl 5 (.int .u8)) (.o .s) e6))]))) fuel38_11 11 step38_11 (fun x => by kernel_rfl) (by kernel_rfl) ?_
  intro R st K r h
  unfold lp38 at h
  simp only at h
  split at h
  · rename_i y6 y25 y26 y27 h6 h25 h26 h27
    refine ⟨⟨y6, y25, y26, y27⟩, ?_, h⟩
    show St.ofList [(6, st 6), (25, st 25), (26, st 26), (27, st 27)] = _
    rw [h6, h25, h26, h27]
    rfl
  · cases h
noncomputable def c38_3 : Code := match loopAt 3 (body Try.f38.body) with | some c => c | none => .skip
theorem step38_3 (R : Type) (K : Ex → St → Option R) (rec : St → Option R) (x : X38_3) : evC (envOf gam38 Try.f38.ntmps fz38) lp38 c38_3 (S38_3 x) (fun e st => match e with | .normal => rec (st.only [0, 3, 9, 10, 11]) | e => K e (st.only (out38_3 e))) = B38_3 (fun e0 e3 => K (.exit 0) (St.ofList [(0, (.v (.sl 25 (.sl 5 (.int .u8))) .s e0)), (3, (.v (.int .i64) .s e3))])) (fun x => rec (S38_3 x)) x := by kernel_rfl
theorem ok38_3 : LoopOk (envOf gam38 Try.f38.ntmps fz38) lp38 c38_3 := by
  refine loopOk_of (hd := [0, 3, 9, 10, 11]) (out := out38_3) (S := S38_3) (fun _ K => B38_3 (fun e0 e3 => K (.exit 0) (St.ofList [(0, (.v (.sl 25 (.sl 5 (.int .u8))) .s e0)), (3, (.v (.int .i64) .s e3))]))) fuel38_3 3 step38_3 (fun x => by kernel_rfl) (by kernel_rfl) ?_
  intro R st K r h
  unfold lp38 at h
  simp only at h
  split at h
  · rename_i y0 y3 y9 y10 y11 h0 h3 h9 h10 h11
    refine ⟨⟨y0, y3, y9, y10, y11⟩, ?_, h⟩
    show St.ofList [(0, st 0), (3, st 3), (9, st 9), (10, st 10), (11, st 11)] = _
    rw [h0, h3, h9, h10, h11]
    rfl
  · cases h
noncomputable def p38 {R : Type} (a0 : List (List (Int))) (K : (List (Int)) → Option R) : Option R :=
  let v1 := ((List.length a0 : Nat) : Int)
  loopN (B38_3 (fun w2 w3 => p43 ([] : List (Int)) w3 fun r4 =>
  let v5 := ((List.length w2 : Nat) : Int)
  loopN (B38_11 (fun w6 => K w6)) (fuel38_11 ⟨r4, w2, v5, (0 : Int)⟩) ⟨r4, w2, v5, (0 : Int)⟩)) (fuel38_3 ⟨a0, (0 : Int), a0, v1, (0 : Int)⟩) ⟨a0, (0 : Int), a0, v1, (0 : Int)⟩
noncomputable def cs38 : CSpec := { ins := [(.val (.sl 25 (.sl 5 (.int .u8))) .s)], outs := [((.sl 5 (.int .u8)), (.o .s))], fn := fun (d : (List (List (Int))) × Unit) K => p38 d.1 fun r0 => K ((r0, ()) : (List (Int)) × Unit) () }
theorem h38 : Holds Try.prog 38 cs38 := by
  refine holds_of (env := envOf gam38 Try.f38.ntmps fz38) (fn := Try.f38) (code := body Try.f38.body) (rs := [2]) (lp := lp38) mixed (envTyOk _ _ _) gamOk38 Try.func38 (by kernel_rfl) (by kernel_rfl) (by kernel_rfl) (by kernel_rfl) (by kernel_rfl) (loopsOk_of fun c hc => ?_) () ?_
  · rw [show loopsL (body Try.f38.body) = [c38_3, c38_11] by kernel_rfl] at hc
    simp only [List.mem_cons, List.not_mem_nil, or_false] at hc
    rcases hc with rfl | rfl
    · exact ok38_3
    · exact ok38_11
  intro d R K res h
  have : evC (envOf gam38 Try.f38.ntmps fz38) lp38 (body Try.f38.body) (St.args (initS cs38.ins d)) (retK (envOf gam38 Try.f38.ntmps fz38) cs38.outs [2] fun r => K r ()) = cs38.fn d K := by kernel_rfl
  rw [this]; exact h
-- f24 trammel/utf.PutName
noncomputable def fz24 : Nat → Bool
  | _ => false
noncomputable def gam24 : FuncId → Option CSpec
  | 11 => some cs11
  | 36 => some cs36
  | 38 => some cs38
  | _ => none
theorem gamOk24 : EnvFn Try.prog (envOf gam24 Try.f24.ntmps fz24) := by
  intro f c h
  unfold envOf gam24 at h
  simp only at h
  split at h <;> first | (cases h; done) | (cases h; exact h11) | (cases h; exact h36) | (cases h; exact h38)
noncomputable def p24 {R : Type} (a0 : List (Int)) (a1 : List UInt8) (K : (List (Int)) → Int → Option R) : Option R :=
  p11 a1 fun r1 =>
  let v2 := !r1
  cond v2
  (K ([] : List (Int)) (2 : Int))
  (let v3 := ((List.length a1 : Nat) : Int)
  let v4 := decide (v3 > (64 : Int))
  cond v4
  (K ([] : List (Int)) (4 : Int))
  (let v5 := ((List.length a1 : Nat) : Int)
  let v6 := IntKind.u64.wrap v5
  p36 a0 v6 fun r7 =>
  cond (decide (List.length a1 ≤ most))
  (let v8 := nums a1
  let v9 := List.set (List.set (List.replicate 2 ([] : List (Int))) 0 r7) 1 v8
  p38 v9 fun r10 =>
  K r10 (0 : Int)) none))
noncomputable def cs24 : CSpec := { ins := [(.val (.sl 5 (.int .u8)) .s), (.val .str .s)], outs := [((.sl 5 (.int .u8)), (.o .s)), ((.int .i64), .s)], fn := fun (d : (List (Int)) × (List UInt8) × Unit) K => p24 d.1 d.2.1 fun r0 r1 => K ((r0, r1, ()) : (List (Int)) × Int × Unit) () }
theorem h24 : Holds Try.prog 24 cs24 := by
  refine holds_of (env := envOf gam24 Try.f24.ntmps fz24) (fn := Try.f24) (code := body Try.f24.body) (rs := [4, 5]) (lp := lp0) mixed (envTyOk _ _ _) gamOk24 Try.func24 (by kernel_rfl) (by kernel_rfl) (by kernel_rfl) (by kernel_rfl) (by kernel_rfl) (loopsOk_none (by kernel_rfl)) () ?_
  intro d R K res h
  have : evC (envOf gam24 Try.f24.ntmps fz24) lp0 (body Try.f24.body) (St.args (initS cs24.ins d)) (retK (envOf gam24 Try.f24.ntmps fz24) cs24.outs [4, 5] fun r => K r ()) = cs24.fn d K := by kernel_rfl
  rw [this]; exact h
-- f26 trammel/trammelref02.Bytes
noncomputable def fz26 : Nat → Bool
  | _ => false
noncomputable def gam26 : FuncId → Option CSpec
  | 37 => some cs37
  | _ => none
theorem gamOk26 : EnvFn Try.prog (envOf gam26 Try.f26.ntmps fz26) := by
  intro f c h
  unfold envOf gam26 at h
  simp only at h
  split at h <;> first | (cases h; done) | (cases h; exact h37)
noncomputable def p26 {R : Type} (a0 : List UInt8) (K : (List (Int)) → Option R) : Option R :=
  let v1 := ((List.length a0 : Nat) : Int)
  let v2 := IntKind.u64.wrap v1
  p37 v2 fun r3 =>
  cond (decide (List.length r3 + List.length (nums a0) ≤ most))
  (let v4 := r3 ++ (nums a0)
  K v4) none
noncomputable def cs26 : CSpec := { ins := [(.val .str .s)], outs := [((.sl 5 (.int .u8)), (.o .s))], fn := fun (d : (List UInt8) × Unit) K => p26 d.1 fun r0 => K ((r0, ()) : (List (Int)) × Unit) () }
theorem h26 : Holds Try.prog 26 cs26 := by
  refine holds_of (env := envOf gam26 Try.f26.ntmps fz26) (fn := Try.f26) (code := body Try.f26.body) (rs := [2]) (lp := lp0) mixed (envTyOk _ _ _) gamOk26 Try.func26 (by kernel_rfl) (by kernel_rfl) (by kernel_rfl) (by kernel_rfl) (by kernel_rfl) (loopsOk_none (by kernel_rfl)) () ?_
  intro d R K res h
  have : evC (envOf gam26 Try.f26.ntmps fz26) lp0 (body Try.f26.body) (St.args (initS cs26.ins d)) (retK (envOf gam26 Try.f26.ntmps fz26) cs26.outs [2] fun r => K r ()) = cs26.fn d K := by kernel_rfl
  rw [this]; exact h
-- f9 trammel/trammellaw02.UtfNames
noncomputable def fz9 : Nat → Bool
  | _ => false
noncomputable def gam9 : FuncId → Option CSpec
  | 10 => some cs10
  | 12 => some cs12
  | 21 => some cs21
  | 22 => some cs22
  | 23 => some cs23
  | 24 => some cs24
  | 25 => some cs25
  | 26 => some cs26
  | _ => none
theorem gamOk9 : EnvFn Try.prog (envOf gam9 Try.f9.ntmps fz9) := by
  intro f c h
  unfold envOf gam9 at h
  simp only at h
  split at h <;> first | (cases h; done) | (cases h; exact h10) | (cases h; exact h12) | (cases h; exact h21) | (cases h; exact h22) | (cases h; exact h23) | (cases h; exact h24) | (cases h; exact h25) | (cases h; exact h26)
noncomputable def p9 {R : Type} (a0 : List (Int)) (a1 : List UInt8) (K : Bool → Option R) : Option R :=
  p10  fun r1 =>
  let v2 := !r1
  cond v2
  (K false)
  (let v3 := ((List.length a0 : Nat) : Int)
  let v4 := minI v3 (1000 : Int)
  cond (inR (0 : Int) v4 (List.length a0))
  (let v5 := rng a0 (0 : Int) v4
  let v6 := ((List.length a1 : Nat) : Int)
  let v7 := minI v6 (1000 : Int)
  cond (inR (0 : Int) v7 (List.length a1))
  (let v8 := rng a1 (0 : Int) v7
  p22 v5 fun r9 r10 r11 =>
  p23 v5 fun r12 r13 r14 =>
  let v15 := !(r9 == r12)
  cond v15
  (K false)
  (let v16 := r10 != r13
  cond v16
  (K false)
  (let v17 := r11 != r14
  cond v17
  (K false)
  (p24 v5 v8 fun r18 r19 =>
  p12 v8 fun r20 =>
  let v21 := !r20
  cond v21
  (let v22 := r19 == (2 : Int)
  cond v22
  (let v23 := ((List.length r18 : Nat) : Int)
  let v24 := v23 == (0 : Int)
  K v24)
  (K false))
  (let v25 := ((List.length v8 : Nat) : Int)
  let v26 := decide (v25 > (64 : Int))
  cond v26
  (let v27 := r19 == (4 : Int)
  cond v27
  (let v28 := ((List.length r18 : Nat) : Int)
  let v29 := v28 == (0 : Int)
  K v29)
  (K false))
  (let v30 := r19 == (0 : Int)
  cond v30
  (p25 v5 fun r31 =>
  p26 v8 fun r32 =>
  cond (decide (List.length r31 + List.length r32 ≤ most))
  (let v33 := r31 ++ r32
  p21 r18 v33 fun r34 =>
  K r34) none)
  (K false))))))) none) none)
noncomputable def cs9 : CSpec := { ins := [(.val (.sl 5 (.int .u8)) .s), (.val .str .s)], outs := [(.bool, .s)], fn := fun (d : (List (Int)) × (List UInt8) × Unit) K => p9 d.1 d.2.1 fun r0 => K ((r0, ()) : Bool × Unit) () }
theorem h9 : Holds Try.prog 9 cs9 := by
  refine holds_of (env := envOf gam9 Try.f9.ntmps fz9) (fn := Try.f9) (code := body Try.f9.body) (rs := [4]) (lp := lp0) mixed (envTyOk _ _ _) gamOk9 Try.func9 (by kernel_rfl) (by kernel_rfl) (by kernel_rfl) (by kernel_rfl) (by kernel_rfl) (loopsOk_none (by kernel_rfl)) () ?_
  intro d R K res h
  have : evC (envOf gam9 Try.f9.ntmps fz9) lp0 (body Try.f9.body) (St.args (initS cs9.ins d)) (retK (envOf gam9 Try.f9.ntmps fz9) cs9.outs [4] fun r => K r ()) = cs9.fn d K := by kernel_rfl
  rw [this]; exact h
end Go.Trm.G1
