import Derived.Test.YthidebepdpkgkabTrmHand
import Derived.Test.YthidebepdpkgkabProg
import Derived.KernelRfl
set_option linter.unusedVariables false
set_option linter.unusedSimpArgs false
namespace Go.Trm.G1
open Go.Proofs
set_option maxRecDepth 100000
noncomputable def envTy : TypeId → Option Ty
  | 2 => some (.int .i64)
  | 3 => some (.int .i64)
  | 4 => some .bool
  | 5 => some (.int .u8)
  | 6 => some (.int .u8)
  | 7 => some (.pair (.int .i64) (.pair (.int .i64) (.pair .bool (.pair (.int .u8) .unit))))
  | 8 => some (.pair (.int .i64) (.pair (.int .i64) (.pair .bool (.pair (.int .u8) .unit))))
  | 9 => some .str
  | 10 => some .str
  | 11 => some .str
  | 12 => some (.int .u64)
  | 13 => some (.pair .str (.pair (.int .u64) .unit))
  | 14 => some (.pair .str (.pair (.int .u64) .unit))
  | 21 => some (.int .i32)
  | 22 => some (.sl 5 (.int .u8))
  | 24 => some (.int .i64)
  | 32 => some (.sl 89 (.pair (.sl 86 (.sl 85 (.pair (.pair (.int .u64) (.pair (.int .u64) .unit)) (.pair (.pair (.int .i64) (.pair (.int .u64) .unit)) .unit)))) .unit))
  | 43 => some (.pair .str (.pair (.sl 5 (.int .u8)) .unit))
  | 44 => some (.pair .str (.pair (.sl 5 (.int .u8)) .unit))
  | 51 => some (.sl 112 (.pair (.sl 3 (.int .i64)) (.pair (.sl 3 (.int .i64)) .unit)))
  | 52 => some (.sl 117 (.pair .str (.pair .str (.pair (.int .i64) (.pair (.int .i64) (.pair (.pair (.int .i64) (.pair .bool (.pair (.int .i64) .unit))) (.pair .bool .unit)))))))
  | 53 => some (.sl 120 (.pair (.int .i64) (.pair (.sl 3 (.int .i64)) (.pair (.sl 170 (.pair (.int .i64) (.pair (.int .i64) (.pair (.int .i64) (.pair (.int .i64) (.pair (.sl 3 (.int .i64)) .unit)))))) .unit))))
  | 54 => some (.sl 115 (.pair (.int .i64) (.pair .bool (.pair (.int .i64) .unit))))
  | 55 => some (.sl 123 (.pair (.int .i64) (.pair .bool (.pair (.sl 170 (.pair (.int .i64) (.pair (.int .i64) (.pair (.int .i64) (.pair (.int .i64) (.pair (.sl 3 (.int .i64)) .unit)))))) .unit))))
  | 56 => some (.sl 125 (.pair .str (.pair (.int .i64) (.pair (.int .i64) .unit))))
  | 57 => some (.sl 3 (.int .i64))
  | 58 => some (.sl 127 (.pair (.int .i64) (.pair (.sl 170 (.pair (.int .i64) (.pair (.int .i64) (.pair (.int .i64) (.pair (.int .i64) (.pair (.sl 3 (.int .i64)) .unit)))))) (.pair (.sl 3 (.int .i64)) .unit))))
  | 59 => some (.sl 129 (.pair (.int .i64) (.pair (.sl 170 (.pair (.int .i64) (.pair (.int .i64) (.pair (.int .i64) (.pair (.int .i64) (.pair (.sl 3 (.int .i64)) .unit)))))) (.pair (.sl 5 (.int .u8)) .unit))))
  | 60 => some (.sl 44 (.pair .str (.pair (.sl 5 (.int .u8)) .unit)))
  | 61 => some (.pair (.sl 112 (.pair (.sl 3 (.int .i64)) (.pair (.sl 3 (.int .i64)) .unit))) (.pair (.sl 117 (.pair .str (.pair .str (.pair (.int .i64) (.pair (.int .i64) (.pair (.pair (.int .i64) (.pair .bool (.pair (.int .i64) .unit))) (.pair .bool .unit))))))) (.pair (.sl 120 (.pair (.int .i64) (.pair (.sl 3 (.int .i64)) (.pair (.sl 170 (.pair (.int .i64) (.pair (.int .i64) (.pair (.int .i64) (.pair (.int .i64) (.pair (.sl 3 (.int .i64)) .unit)))))) .unit)))) (.pair (.sl 115 (.pair (.int .i64) (.pair .bool (.pair (.int .i64) .unit)))) (.pair (.sl 115 (.pair (.int .i64) (.pair .bool (.pair (.int .i64) .unit)))) (.pair (.sl 123 (.pair (.int .i64) (.pair .bool (.pair (.sl 170 (.pair (.int .i64) (.pair (.int .i64) (.pair (.int .i64) (.pair (.int .i64) (.pair (.sl 3 (.int .i64)) .unit)))))) .unit)))) (.pair (.sl 125 (.pair .str (.pair (.int .i64) (.pair (.int .i64) .unit)))) (.pair (.sl 3 (.int .i64)) (.pair (.sl 127 (.pair (.int .i64) (.pair (.sl 170 (.pair (.int .i64) (.pair (.int .i64) (.pair (.int .i64) (.pair (.int .i64) (.pair (.sl 3 (.int .i64)) .unit)))))) (.pair (.sl 3 (.int .i64)) .unit)))) (.pair (.sl 3 (.int .i64)) (.pair (.sl 129 (.pair (.int .i64) (.pair (.sl 170 (.pair (.int .i64) (.pair (.int .i64) (.pair (.int .i64) (.pair (.int .i64) (.pair (.sl 3 (.int .i64)) .unit)))))) (.pair (.sl 5 (.int .u8)) .unit)))) (.pair (.sl 44 (.pair .str (.pair (.sl 5 (.int .u8)) .unit))) .unit))))))))))))
  | 62 => some (.pair (.sl 112 (.pair (.sl 3 (.int .i64)) (.pair (.sl 3 (.int .i64)) .unit))) (.pair (.sl 117 (.pair .str (.pair .str (.pair (.int .i64) (.pair (.int .i64) (.pair (.pair (.int .i64) (.pair .bool (.pair (.int .i64) .unit))) (.pair .bool .unit))))))) (.pair (.sl 120 (.pair (.int .i64) (.pair (.sl 3 (.int .i64)) (.pair (.sl 170 (.pair (.int .i64) (.pair (.int .i64) (.pair (.int .i64) (.pair (.int .i64) (.pair (.sl 3 (.int .i64)) .unit)))))) .unit)))) (.pair (.sl 115 (.pair (.int .i64) (.pair .bool (.pair (.int .i64) .unit)))) (.pair (.sl 115 (.pair (.int .i64) (.pair .bool (.pair (.int .i64) .unit)))) (.pair (.sl 123 (.pair (.int .i64) (.pair .bool (.pair (.sl 170 (.pair (.int .i64) (.pair (.int .i64) (.pair (.int .i64) (.pair (.int .i64) (.pair (.sl 3 (.int .i64)) .unit)))))) .unit)))) (.pair (.sl 125 (.pair .str (.pair (.int .i64) (.pair (.int .i64) .unit)))) (.pair (.sl 3 (.int .i64)) (.pair (.sl 127 (.pair (.int .i64) (.pair (.sl 170 (.pair (.int .i64) (.pair (.int .i64) (.pair (.int .i64) (.pair (.int .i64) (.pair (.sl 3 (.int .i64)) .unit)))))) (.pair (.sl 3 (.int .i64)) .unit)))) (.pair (.sl 3 (.int .i64)) (.pair (.sl 129 (.pair (.int .i64) (.pair (.sl 170 (.pair (.int .i64) (.pair (.int .i64) (.pair (.int .i64) (.pair (.int .i64) (.pair (.sl 3 (.int .i64)) .unit)))))) (.pair (.sl 5 (.int .u8)) .unit)))) (.pair (.sl 44 (.pair .str (.pair (.sl 5 (.int .u8)) .unit))) .unit))))))))))))
  | 75 => some (.int .u64)
  | 80 => some (.pair (.int .u64) (.pair (.int .u64) .unit))
  | 81 => some (.pair (.int .u64) (.pair (.int .u64) .unit))
  | 82 => some (.pair (.int .i64) (.pair (.int .u64) .unit))
  | 83 => some (.pair (.int .i64) (.pair (.int .u64) .unit))
  | 84 => some (.pair (.pair (.int .u64) (.pair (.int .u64) .unit)) (.pair (.pair (.int .i64) (.pair (.int .u64) .unit)) .unit))
  | 85 => some (.pair (.pair (.int .u64) (.pair (.int .u64) .unit)) (.pair (.pair (.int .i64) (.pair (.int .u64) .unit)) .unit))
  | 86 => some (.sl 85 (.pair (.pair (.int .u64) (.pair (.int .u64) .unit)) (.pair (.pair (.int .i64) (.pair (.int .u64) .unit)) .unit)))
  | 87 => some (.sl 86 (.sl 85 (.pair (.pair (.int .u64) (.pair (.int .u64) .unit)) (.pair (.pair (.int .i64) (.pair (.int .u64) .unit)) .unit))))
  | 88 => some (.pair (.sl 86 (.sl 85 (.pair (.pair (.int .u64) (.pair (.int .u64) .unit)) (.pair (.pair (.int .i64) (.pair (.int .u64) .unit)) .unit)))) .unit)
  | 89 => some (.pair (.sl 86 (.sl 85 (.pair (.pair (.int .u64) (.pair (.int .u64) .unit)) (.pair (.pair (.int .i64) (.pair (.int .u64) .unit)) .unit)))) .unit)
  | 90 => some (.sl 75 (.int .u64))
  | 94 => some (.ptr 96 (.pair (.sl 5 (.int .u8)) (.pair (.int .i64) .unit)))
  | 95 => some (.pair (.sl 5 (.int .u8)) (.pair (.int .i64) .unit))
  | 96 => some (.pair (.sl 5 (.int .u8)) (.pair (.int .i64) .unit))
  | 100 => some (.pair (.int .i64) (.pair (.sl 5 (.int .u8)) .unit))
  | 101 => some (.pair (.int .i64) (.pair (.sl 5 (.int .u8)) .unit))
  | 102 => some (.sl 101 (.pair (.int .i64) (.pair (.sl 5 (.int .u8)) .unit)))
  | 109 => some (.arr 5 (.int .i64))
  | 111 => some (.pair (.sl 3 (.int .i64)) (.pair (.sl 3 (.int .i64)) .unit))
  | 112 => some (.pair (.sl 3 (.int .i64)) (.pair (.sl 3 (.int .i64)) .unit))
  | 114 => some (.pair (.int .i64) (.pair .bool (.pair (.int .i64) .unit)))
  | 115 => some (.pair (.int .i64) (.pair .bool (.pair (.int .i64) .unit)))
  | 116 => some (.pair .str (.pair .str (.pair (.int .i64) (.pair (.int .i64) (.pair (.pair (.int .i64) (.pair .bool (.pair (.int .i64) .unit))) (.pair .bool .unit))))))
  | 117 => some (.pair .str (.pair .str (.pair (.int .i64) (.pair (.int .i64) (.pair (.pair (.int .i64) (.pair .bool (.pair (.int .i64) .unit))) (.pair .bool .unit))))))
  | 118 => some (.sl 170 (.pair (.int .i64) (.pair (.int .i64) (.pair (.int .i64) (.pair (.int .i64) (.pair (.sl 3 (.int .i64)) .unit))))))
  | 119 => some (.pair (.int .i64) (.pair (.sl 3 (.int .i64)) (.pair (.sl 170 (.pair (.int .i64) (.pair (.int .i64) (.pair (.int .i64) (.pair (.int .i64) (.pair (.sl 3 (.int .i64)) .unit)))))) .unit)))
  | 120 => some (.pair (.int .i64) (.pair (.sl 3 (.int .i64)) (.pair (.sl 170 (.pair (.int .i64) (.pair (.int .i64) (.pair (.int .i64) (.pair (.int .i64) (.pair (.sl 3 (.int .i64)) .unit)))))) .unit)))
  | 122 => some (.pair (.int .i64) (.pair .bool (.pair (.sl 170 (.pair (.int .i64) (.pair (.int .i64) (.pair (.int .i64) (.pair (.int .i64) (.pair (.sl 3 (.int .i64)) .unit)))))) .unit)))
  | 123 => some (.pair (.int .i64) (.pair .bool (.pair (.sl 170 (.pair (.int .i64) (.pair (.int .i64) (.pair (.int .i64) (.pair (.int .i64) (.pair (.sl 3 (.int .i64)) .unit)))))) .unit)))
  | 124 => some (.pair .str (.pair (.int .i64) (.pair (.int .i64) .unit)))
  | 125 => some (.pair .str (.pair (.int .i64) (.pair (.int .i64) .unit)))
  | 126 => some (.pair (.int .i64) (.pair (.sl 170 (.pair (.int .i64) (.pair (.int .i64) (.pair (.int .i64) (.pair (.int .i64) (.pair (.sl 3 (.int .i64)) .unit)))))) (.pair (.sl 3 (.int .i64)) .unit)))
  | 127 => some (.pair (.int .i64) (.pair (.sl 170 (.pair (.int .i64) (.pair (.int .i64) (.pair (.int .i64) (.pair (.int .i64) (.pair (.sl 3 (.int .i64)) .unit)))))) (.pair (.sl 3 (.int .i64)) .unit)))
  | 128 => some (.pair (.int .i64) (.pair (.sl 170 (.pair (.int .i64) (.pair (.int .i64) (.pair (.int .i64) (.pair (.int .i64) (.pair (.sl 3 (.int .i64)) .unit)))))) (.pair (.sl 5 (.int .u8)) .unit)))
  | 129 => some (.pair (.int .i64) (.pair (.sl 170 (.pair (.int .i64) (.pair (.int .i64) (.pair (.int .i64) (.pair (.int .i64) (.pair (.sl 3 (.int .i64)) .unit)))))) (.pair (.sl 5 (.int .u8)) .unit)))
  | 151 => some (.ptr 153 (.pair (.sl 5 (.int .u8)) (.pair (.int .i64) (.pair (.int .i64) .unit))))
  | 152 => some (.pair (.sl 5 (.int .u8)) (.pair (.int .i64) (.pair (.int .i64) .unit)))
  | 153 => some (.pair (.sl 5 (.int .u8)) (.pair (.int .i64) (.pair (.int .i64) .unit)))
  | 155 => some (.sl 22 (.sl 5 (.int .u8)))
  | 157 => some (.int .u64)
  | 164 => some (.pair (.int .i64) .unit)
  | 165 => some (.pair (.int .i64) .unit)
  | 169 => some (.pair (.int .i64) (.pair (.int .i64) (.pair (.int .i64) (.pair (.int .i64) (.pair (.sl 3 (.int .i64)) .unit)))))
  | 170 => some (.pair (.int .i64) (.pair (.int .i64) (.pair (.int .i64) (.pair (.int .i64) (.pair (.sl 3 (.int .i64)) .unit)))))
  | 174 => some (.ptr 165 (.pair (.int .i64) .unit))
  | 175 => some (.sl 4 .bool)
  | 186 => some (.int .u32)
  | 187 => some (.int .u8)
  | 188 => some (.int .u8)
  | 190 => some (.ptr 5 (.int .u8))
  | 191 => some (.int .i32)
  | 192 => some (.int .i32)
  | _ => none
noncomputable def envEq : TypeId → Bool
  | 85 => true
  | _ => false
noncomputable def noG : FuncId → List FuncId → Option CSpec := fun _ _ => none
theorem envTyOk : EnvTy Try.prog { ty := envTy, gam := fun _ _ => none, n := 0, eq := envEq } := by
  refine ⟨fun T t h => ?_, fun T t h1 h2 => ?_⟩
  · unfold envTy at h
    simp only at h
    split at h <;> first | (cases h; done) | (simp only [Option.some.injEq] at h; subst h; kernel_rfl)
  · unfold envEq at h1
    simp only at h1
    split at h1 <;> first | (cases h1; done) | (simp only [envTy, Option.some.injEq] at h2; subst h2; kernel_rfl)
theorem mixed : Try.prog.follows .mixedOrders = true := by kernel_rfl
noncomputable def body (o : Option Code) : Code := match o with | some c => c | none => .skip
noncomputable def lp0 : Loops := fun _ _ _ _ _ => none
noncomputable def loopAt (id : Nat) : Code → Option Code
  | .loop c => match firstId c with
    | some i => match Nat.beq i id with
      | true => some c
      | false => loopAt id c
    | none => loopAt id c
  | .seq a b => match loopAt id a with
    | some c => some c
    | none => loopAt id b
  | .cond _ a b => match loopAt id a with
    | some c => some c
    | none => loopAt id b
  | .block _ c => loopAt id c
  | .scope c => loopAt id c
  | _ => none
noncomputable def joinC (id : Nat) : Code → Option Code
  | .seq a b => match firstId b with
    | some i => match Nat.beq i id with
      | true => some a
      | false => match joinC id a with
        | some c => some c
        | none => joinC id b
    | none => match joinC id a with
      | some c => some c
      | none => joinC id b
  | .cond _ a b => match joinC id a with
    | some c => some c
    | none => joinC id b
  | .block _ c => joinC id c
  | .scope c => joinC id c
  | .loop c => joinC id c
  | _ => none

-- f44 slices.Clone[[]byte,byte]
noncomputable def env_slices_CloneU8 : Env := { ty := envTy, eq := envEq, gam := noG, n := Try.f44.ntmps }
noncomputable def p_slices_CloneU8 {R : Type} (a0 : List (Int)) (K : (List (Int)) → Option R) : Option R :=
  cond (List.isEmpty a0)
  (both
  (K ([] : List (Int)))
  (let v1 := List.replicate 0 (0 : Int)
  cond (decide (List.length v1 + List.length a0 ≤ most))
  (let v2 := v1 ++ a0
  K v2) none))
  (let v3 := List.replicate 0 (0 : Int)
  cond (decide (List.length v3 + List.length a0 ≤ most))
  (let v4 := v3 ++ a0
  K v4) none)
noncomputable def cs_slices_CloneU8 : CSpec := { ins := [(.val (.sl 5 (.int .u8)) .s)], outs := [((.sl 5 (.int .u8)), (.o .s))], fn := fun (d : (List (Int)) × Unit) K _ => p_slices_CloneU8 d.1 (fun r0 => K ((r0, ()) : (List (Int)) × Unit) ((()) : Unit)) }
theorem h_slices_CloneU8 : Holds Try.prog 44 cs_slices_CloneU8 := by
  refine holds_of (env := env_slices_CloneU8) (inl := inl0) (fn := Try.f44) (code := body Try.f44.body) (rs := [(2, none)]) (lp := lp0) mixed ⟨envTyOk.ty, envTyOk.eq⟩ (fun _ _ _ h => by cases h) inl0_ok Try.func44 (by kernel_rfl) (by kernel_rfl) (by kernel_rfl) (by kernel_rfl) (by kernel_rfl) (loopsOk_none (by kernel_rfl) (by kernel_rfl)) (by kernel_rfl) ?_
  intro d R K Kp res h
  have : evC env_slices_CloneU8 lp0 inl0 (body Try.f44.body) (St.start cs_slices_CloneU8.ins d) (retK env_slices_CloneU8 cs_slices_CloneU8.ins cs_slices_CloneU8.outs [(2, none)] cs_slices_CloneU8.pan K Kp) = cs_slices_CloneU8.fn d K Kp := by kernel_rfl
  rw [this]; exact h
-- f33 trammel/leb.PutU
noncomputable def gam_leb_PutU : FuncId → List FuncId → Option CSpec
  | 44, [] => some cs_slices_CloneU8
  | _, _ => none
noncomputable def env_leb_PutU : Env := { ty := envTy, eq := envEq, gam := gam_leb_PutU, n := Try.f33.ntmps }
theorem gamOk_leb_PutU : EnvFn Try.prog env_leb_PutU := by
  intro f gs c h
  unfold env_leb_PutU gam_leb_PutU at h
  simp only at h
  split at h <;> first | (cases h; done) | (cases h; exact h_slices_CloneU8)
structure X_leb_PutU_2 where
  f1 : Int
  f5 : List (Int)

noncomputable def B_leb_PutU_2 {R : Type} (k_exit_0 : Int → (List (Int)) → Option R) (rec : X_leb_PutU_2 → Option R) (x : X_leb_PutU_2) : Option R :=
  let v1 := decide (x.f1 ≥ (128 : Int))
  cond v1
  (let v2 := IntKind.u8.wrap x.f1
  let v3 := IntKind.u8.wrap ((BitVec.ofInt IntKind.u8.bits v2 ||| BitVec.ofInt IntKind.u8.bits (128 : Int)).toNat)
  let v4 := List.set (List.replicate 1 (0 : Int)) 0 v3
  cond (decide (List.length x.f5 + List.length v4 ≤ most))
  (let v5 := x.f5 ++ v4
  cond (decide (0 ≤ (7 : Int)))
  (let v6 := shrI .u64 x.f1 (7 : Int)
  rec ⟨v6, v5⟩) none) none)
  (k_exit_0 x.f1 x.f5)
noncomputable def S_leb_PutU_2 (x : X_leb_PutU_2) : St := St.ofList [(1, (.v (.int .u64) .s x.f1)), (5, (.v (.sl 5 (.int .u8)) (.o .s) x.f5))]
def out_leb_PutU_2 : Ex → List (Nat × Bool) | .exit 0 => [(1, false), (5, false)] | _ => []
noncomputable def fuel_leb_PutU_2 (x : X_leb_PutU_2) : Nat := fuel64
noncomputable def c_leb_PutU_2 : Code := match loopAt 2 (body Try.f33.body) with | some c => c | none => .skip
noncomputable def lp_leb_PutU : Loops := fun z i R st K => match z, i with
  | false, 2 => coerce [(1, false), (5, false)] st (fun st => mV (.int .u64) .s (st 1) fun y1 => mV (.sl 5 (.int .u8)) (.o .s) (st 5) fun y5 => loopN (B_leb_PutU_2 (fun e1 e5 => K (.exit 0) (St.ofList [(1, (.v (.int .u64) .s e1)), (5, (.v (.sl 5 (.int .u8)) (.o .s) e5))]))) (fuel_leb_PutU_2 ⟨y1, y5⟩) ⟨y1, y5⟩)
  | _, _ => none
theorem step_leb_PutU_2 (R : Type) (K : Ex → St → Option R) (rec : St → Option R) (x : X_leb_PutU_2) : evC env_leb_PutU lp_leb_PutU inl0 c_leb_PutU_2 (S_leb_PutU_2 x) (fun e st => match e with | .normal => coerce [(1, false), (5, false)] st rec | e => coerce (out_leb_PutU_2 e) st (K e)) = B_leb_PutU_2 (fun e1 e5 => K (.exit 0) (St.ofList [(1, (.v (.int .u64) .s e1)), (5, (.v (.sl 5 (.int .u8)) (.o .s) e5))])) (fun x => rec (S_leb_PutU_2 x)) x := by kernel_rfl
theorem ok_leb_PutU_2 : LoopOk env_leb_PutU lp_leb_PutU inl0 c_leb_PutU_2 := by
  refine loopOk_of (hd := [(1, false), (5, false)]) (out := out_leb_PutU_2) (S := S_leb_PutU_2) (fun _ K => B_leb_PutU_2 (fun e1 e5 => K (.exit 0) (St.ofList [(1, (.v (.int .u64) .s e1)), (5, (.v (.sl 5 (.int .u8)) (.o .s) e5))]))) fuel_leb_PutU_2 2 step_leb_PutU_2 (by kernel_rfl) (fun R K => fun st => mV (.int .u64) .s (st 1) fun y1 => mV (.sl 5 (.int .u8)) (.o .s) (st 5) fun y5 => loopN (B_leb_PutU_2 (fun e1 e5 => K (.exit 0) (St.ofList [(1, (.v (.int .u64) .s e1)), (5, (.v (.sl 5 (.int .u8)) (.o .s) e5))]))) (fuel_leb_PutU_2 ⟨y1, y5⟩) ⟨y1, y5⟩) (fun R st K => by kernel_rfl) ?_
  intro R K st r h
  obtain ⟨y1, hy1, h⟩ := mV_inv h
  obtain ⟨y5, hy5, h⟩ := mV_inv h
  exact ⟨⟨y1, y5⟩, only_of_list (ofList_cons hy1 (ofList_cons hy5 rfl)), h⟩
theorem loops_leb_PutU : LoopsOk env_leb_PutU lp_leb_PutU inl0 (body Try.f33.body) := by
  refine loopsOk_of (fun c hc => ?_) (fun c hc => ?_)
  · rw [show loopsL (body Try.f33.body) = [c_leb_PutU_2] by kernel_rfl] at hc
    simp only [List.mem_cons, List.not_mem_nil, or_false] at hc
    rcases hc with rfl
    · exact ok_leb_PutU_2
  · rw [show joinsL env_leb_PutU (body Try.f33.body) = [] by kernel_rfl] at hc; cases hc
noncomputable def p_leb_PutU {R : Type} (a0 : List (Int)) (a1 : Int) (K : (List (Int)) → Option R) : Option R :=
  p_slices_CloneU8 a0 fun r1 =>
  loopN (B_leb_PutU_2 (fun w2 w3 =>
  let v4 := IntKind.u8.wrap w2
  let v5 := List.set (List.replicate 1 (0 : Int)) 0 v4
  cond (decide (List.length w3 + List.length v5 ≤ most))
  (let v6 := w3 ++ v5
  K v6) none)) (fuel_leb_PutU_2 ⟨a1, r1⟩) ⟨a1, r1⟩
noncomputable def cs_leb_PutU : CSpec := { ins := [(.val (.sl 5 (.int .u8)) .s), (.val (.int .u64) .s)], outs := [((.sl 5 (.int .u8)), (.o .s))], fn := fun (d : (List (Int)) × Int × Unit) K _ => p_leb_PutU d.1 d.2.1 (fun r0 => K ((r0, ()) : (List (Int)) × Unit) ((()) : Unit)) }
theorem h_leb_PutU : Holds Try.prog 33 cs_leb_PutU := by
  refine holds_of (env := env_leb_PutU) (inl := inl0) (fn := Try.f33) (code := body Try.f33.body) (rs := [(4, none)]) (lp := lp_leb_PutU) mixed ⟨envTyOk.ty, envTyOk.eq⟩ gamOk_leb_PutU inl0_ok Try.func33 (by kernel_rfl) (by kernel_rfl) (by kernel_rfl) (by kernel_rfl) (by kernel_rfl) loops_leb_PutU (by kernel_rfl) ?_
  intro d R K Kp res h
  have : evC env_leb_PutU lp_leb_PutU inl0 (body Try.f33.body) (St.start cs_leb_PutU.ins d) (retK env_leb_PutU cs_leb_PutU.ins cs_leb_PutU.outs [(4, none)] cs_leb_PutU.pan K Kp) = cs_leb_PutU.fn d K Kp := by kernel_rfl
  rw [this]; exact h
-- REFUSED f36 trammel/cert.Put$1: rdP un
-- f75 trammel/ivl.Right
noncomputable def env_ivl_Right : Env := { ty := envTy, eq := envEq, gam := noG, n := Try.f75.ntmps }
noncomputable def p_ivl_Right {R : Type} (a0 : (Int) × (Int) × Unit) (K : Bool → Option R) : Option R :=
  let v1 := decide (a0.1 ≤ a0.2.1)
  K v1
noncomputable def cs_ivl_Right : CSpec := { ins := [(.val (.pair (.int .u64) (.pair (.int .u64) .unit)) .s)], outs := [(.bool, .s)], fn := fun (d : ((Int) × (Int) × Unit) × Unit) K _ => p_ivl_Right d.1 (fun r0 => K ((r0, ()) : Bool × Unit) ((()) : Unit)) }
theorem h_ivl_Right : Holds Try.prog 75 cs_ivl_Right := by
  refine holds_of (env := env_ivl_Right) (inl := inl0) (fn := Try.f75) (code := body Try.f75.body) (rs := [(2, none)]) (lp := lp0) mixed ⟨envTyOk.ty, envTyOk.eq⟩ (fun _ _ _ h => by cases h) inl0_ok Try.func75 (by kernel_rfl) (by kernel_rfl) (by kernel_rfl) (by kernel_rfl) (by kernel_rfl) (loopsOk_none (by kernel_rfl) (by kernel_rfl)) (by kernel_rfl) ?_
  intro d R K Kp res h
  have : evC env_ivl_Right lp0 inl0 (body Try.f75.body) (St.start cs_ivl_Right.ins d) (retK env_ivl_Right cs_ivl_Right.ins cs_ivl_Right.outs [(2, none)] cs_ivl_Right.pan K Kp) = cs_ivl_Right.fn d K Kp := by kernel_rfl
  rw [this]; exact h
-- f84 trammel/low.mask
noncomputable def env_low_mask : Env := { ty := envTy, eq := envEq, gam := noG, n := Try.f84.ntmps }
noncomputable def p_low_mask {R : Type} (a0 : Int) (K : Int → Option R) : Option R :=
  let v1 := decide (a0 ≥ (64 : Int))
  cond v1
  (K (18446744073709551615 : Int))
  (let v2 := maxI a0 (0 : Int)
  let v3 := IntKind.u64.wrap v2
  cond (decide (0 ≤ v3))
  (let v4 := shlI .u64 (1 : Int) v3
  let v5 := IntKind.u64.wrap (v4 - (1 : Int))
  K v5) none)
noncomputable def cs_low_mask : CSpec := { ins := [(.val (.int .i64) .s)], outs := [((.int .u64), .s)], fn := fun (d : Int × Unit) K _ => p_low_mask d.1 (fun r0 => K ((r0, ()) : Int × Unit) ((()) : Unit)) }
theorem h_low_mask : Holds Try.prog 84 cs_low_mask := by
  refine holds_of (env := env_low_mask) (inl := inl0) (fn := Try.f84) (code := body Try.f84.body) (rs := [(2, none)]) (lp := lp0) mixed ⟨envTyOk.ty, envTyOk.eq⟩ (fun _ _ _ h => by cases h) inl0_ok Try.func84 (by kernel_rfl) (by kernel_rfl) (by kernel_rfl) (by kernel_rfl) (by kernel_rfl) (loopsOk_none (by kernel_rfl) (by kernel_rfl)) (by kernel_rfl) ?_
  intro d R K Kp res h
  have : evC env_low_mask lp0 inl0 (body Try.f84.body) (St.start cs_low_mask.ins d) (retK env_low_mask cs_low_mask.ins cs_low_mask.outs [(2, none)] cs_low_mask.pan K Kp) = cs_low_mask.fn d K Kp := by kernel_rfl
  rw [this]; exact h
-- f76 trammel/low.Right
noncomputable def gam_low_Right : FuncId → List FuncId → Option CSpec
  | 84, [] => some cs_low_mask
  | _, _ => none
noncomputable def env_low_Right : Env := { ty := envTy, eq := envEq, gam := gam_low_Right, n := Try.f76.ntmps }
theorem gamOk_low_Right : EnvFn Try.prog env_low_Right := by
  intro f gs c h
  unfold env_low_Right gam_low_Right at h
  simp only at h
  split at h <;> first | (cases h; done) | (cases h; exact h_low_mask)
noncomputable def p_low_Right {R : Type} (a0 : (Int) × (Int) × Unit) (K : Bool → Option R) : Option R :=
  let v1 := decide (a0.1 ≥ (0 : Int))
  cond v1
  (let v2 := decide (a0.1 ≤ (64 : Int))
  cond v2
  (both
  (p_low_mask a0.1 fun r3 =>
  let v4 := IntKind.u64.wrap ((BitVec.ofInt IntKind.u64.bits a0.2.1 &&& ~~~(BitVec.ofInt IntKind.u64.bits r3)).toNat)
  let v5 := v4 == (0 : Int)
  K v5)
  (both
  (p_low_mask a0.1 fun r6 =>
  let v7 := IntKind.u64.wrap ((BitVec.ofInt IntKind.u64.bits a0.2.1 &&& ~~~(BitVec.ofInt IntKind.u64.bits r6)).toNat)
  let v8 := v7 == (0 : Int)
  K v8)
  (p_low_mask a0.1 fun r9 =>
  let v10 := IntKind.u64.wrap ((BitVec.ofInt IntKind.u64.bits a0.2.1 &&& ~~~(BitVec.ofInt IntKind.u64.bits r9)).toNat)
  let v11 := v10 == (0 : Int)
  K v11)))
  (K false))
  (K false)
noncomputable def cs_low_Right : CSpec := { ins := [(.val (.pair (.int .i64) (.pair (.int .u64) .unit)) .s)], outs := [(.bool, .s)], fn := fun (d : ((Int) × (Int) × Unit) × Unit) K _ => p_low_Right d.1 (fun r0 => K ((r0, ()) : Bool × Unit) ((()) : Unit)) }
theorem h_low_Right : Holds Try.prog 76 cs_low_Right := by
  refine holds_of (env := env_low_Right) (inl := inl0) (fn := Try.f76) (code := body Try.f76.body) (rs := [(2, none)]) (lp := lp0) mixed ⟨envTyOk.ty, envTyOk.eq⟩ gamOk_low_Right inl0_ok Try.func76 (by kernel_rfl) (by kernel_rfl) (by kernel_rfl) (by kernel_rfl) (by kernel_rfl) (loopsOk_none (by kernel_rfl) (by kernel_rfl)) (by kernel_rfl) ?_
  intro d R K Kp res h
  have : evC env_low_Right lp0 inl0 (body Try.f76.body) (St.start cs_low_Right.ins d) (retK env_low_Right cs_low_Right.ins cs_low_Right.outs [(2, none)] cs_low_Right.pan K Kp) = cs_low_Right.fn d K Kp := by kernel_rfl
  rw [this]; exact h
-- f37 trammel/abs.Right
noncomputable def gam_abs_Right : FuncId → List FuncId → Option CSpec
  | 75, [] => some cs_ivl_Right
  | 76, [] => some cs_low_Right
  | _, _ => none
noncomputable def env_abs_Right : Env := { ty := envTy, eq := envEq, gam := gam_abs_Right, n := Try.f37.ntmps }
theorem gamOk_abs_Right : EnvFn Try.prog env_abs_Right := by
  intro f gs c h
  unfold env_abs_Right gam_abs_Right at h
  simp only at h
  split at h <;> first | (cases h; done) | (cases h; exact h_ivl_Right) | (cases h; exact h_low_Right)
noncomputable def p_abs_Right {R : Type} (a0 : ((Int) × (Int) × Unit) × ((Int) × (Int) × Unit) × Unit) (K : Bool → Option R) : Option R :=
  p_ivl_Right a0.1 fun r1 =>
  cond r1
  (p_low_Right a0.2.1 fun r2 =>
  K r2)
  (K false)
noncomputable def cs_abs_Right : CSpec := { ins := [(.val (.pair (.pair (.int .u64) (.pair (.int .u64) .unit)) (.pair (.pair (.int .i64) (.pair (.int .u64) .unit)) .unit)) .s)], outs := [(.bool, .s)], fn := fun (d : (((Int) × (Int) × Unit) × ((Int) × (Int) × Unit) × Unit) × Unit) K _ => p_abs_Right d.1 (fun r0 => K ((r0, ()) : Bool × Unit) ((()) : Unit)) }
theorem h_abs_Right : Holds Try.prog 37 cs_abs_Right := by
  refine holds_of (env := env_abs_Right) (inl := inl0) (fn := Try.f37) (code := body Try.f37.body) (rs := [(2, none)]) (lp := lp0) mixed ⟨envTyOk.ty, envTyOk.eq⟩ gamOk_abs_Right inl0_ok Try.func37 (by kernel_rfl) (by kernel_rfl) (by kernel_rfl) (by kernel_rfl) (by kernel_rfl) (loopsOk_none (by kernel_rfl) (by kernel_rfl)) (by kernel_rfl) ?_
  intro d R K Kp res h
  have : evC env_abs_Right lp0 inl0 (body Try.f37.body) (St.start cs_abs_Right.ins d) (retK env_abs_Right cs_abs_Right.ins cs_abs_Right.outs [(2, none)] cs_abs_Right.pan K Kp) = cs_abs_Right.fn d K Kp := by kernel_rfl
  rw [this]; exact h
-- f16 trammel/cert.Put
noncomputable def gam_cert_Putx0 : FuncId → List FuncId → Option CSpec
  | 33, [] => some cs_leb_PutU
  | _, _ => none
noncomputable def il_cert_Putx0 : Nat → Bool
  | 36 => true
  | _ => false
noncomputable def lv_cert_Putx0 : Nat → Option (List Nat)
  | 0 => some [4, 5, 6, 8, 21, 22, 23, 39, 99, 100]
  | 1 => some [4, 5, 6, 8, 21, 22, 23, 39, 100, 104, 105, 106]
  | 2 => some [4, 5, 6, 8, 21, 22, 23, 39, 100, 104, 105, 106]
  | 3 => some [4, 5, 6, 8, 21, 22, 23, 39, 100, 103, 104, 105, 106]
  | 4 => some [4, 5, 6, 8, 21, 22, 23, 39, 100, 104, 105, 106]
  | _ => none
noncomputable def env_cert_Putx0 : Env := { ty := envTy, eq := envEq, gam := gam_cert_Putx0, n := Try.f36.ntmps, il := il_cert_Putx0, lv := lv_cert_Putx0, b := 99 }
theorem gamOk_cert_Putx0 : EnvFn Try.prog env_cert_Putx0 := by
  intro f gs c h
  unfold env_cert_Putx0 gam_cert_Putx0 at h
  simp only at h
  split at h <;> first | (cases h; done) | (cases h; exact h_leb_PutU)
structure X_cert_Putx0_1 where
  f4 : Bool
  f5 : List (Int)
  f8 : (List (List (((Int) × (Int) × Unit) × ((Int) × (Int) × Unit) × Unit))) × Unit
  f21 : List ((List (List (((Int) × (Int) × Unit) × ((Int) × (Int) × Unit) × Unit))) × Unit)
  f22 : Int
  f23 : Int
  f39 : List (Int)
  f105 : Int
  f106 : Int

noncomputable def B_cert_Putx0_1 {R : Type} (k_exit_0 : Bool → (List (Int)) → ((List (List (((Int) × (Int) × Unit) × ((Int) × (Int) × Unit) × Unit))) × Unit) → (List ((List (List (((Int) × (Int) × Unit) × ((Int) × (Int) × Unit) × Unit))) × Unit)) → Int → Int → Option R) (rec : X_cert_Putx0_1 → Option R) (x : X_cert_Putx0_1) : Option R :=
  let v1 := decide (x.f106 < x.f105)
  cond v1
  (cond (inB x.f106 (List.length x.f39))
  (let v2 := (List.getD x.f39 x.f106.toNat (0 : Int))
  p_leb_PutU x.f5 v2 fun r3 =>
  let v4 := IntKind.i64.wrap (x.f106 + (1 : Int))
  rec ⟨x.f4, r3, x.f8, x.f21, x.f22, x.f23, x.f39, x.f105, v4⟩) none)
  (k_exit_0 x.f4 x.f5 x.f8 x.f21 x.f22 x.f23)
noncomputable def S_cert_Putx0_1 (x : X_cert_Putx0_1) : St := St.ofList [(4, (.v .bool .s x.f4)), (5, (.v (.ptr 22 (.sl 5 (.int .u8))) (.o (.o .s)) (some x.f5))), (6, (.fn 36 [] [(5, [.der])])), (8, (.v (.ptr 89 (.pair (.sl 86 (.sl 85 (.pair (.pair (.int .u64) (.pair (.int .u64) .unit)) (.pair (.pair (.int .i64) (.pair (.int .u64) .unit)) .unit)))) .unit)) .s (some x.f8))), (21, (.v (.sl 89 (.pair (.sl 86 (.sl 85 (.pair (.pair (.int .u64) (.pair (.int .u64) .unit)) (.pair (.pair (.int .i64) (.pair (.int .u64) .unit)) .unit)))) .unit)) .s x.f21)), (22, (.v (.int .i64) .s x.f22)), (23, (.v (.int .i64) .s x.f23)), (39, (.v (.sl 75 (.int .u64)) (.o .s) x.f39)), (100, (.al 5 [.der])), (104, (.lz 39 [])), (105, (.v (.int .i64) .s x.f105)), (106, (.v (.int .i64) .s x.f106))]
def out_cert_Putx0_1 : Ex → List (Nat × Bool) | .exit 0 => [(4, false), (5, false), (6, false), (8, false), (21, false), (22, false), (23, false)] | _ => []
noncomputable def fuel_cert_Putx0_1 (x : X_cert_Putx0_1) : Nat := fuel64
noncomputable def c_cert_Putx0_1 : Code := match loopAt 1 (body Try.f36.body) with | some c => c | none => .skip
noncomputable def lp_cert_Putx0 : Loops := fun z i R st K => match z, i with
  | false, 1 => coerce [(4, false), (5, false), (6, false), (8, false), (21, false), (22, false), (23, false), (39, false), (100, false), (104, false), (105, false), (106, false)] st (fun st => mV .bool .s (st 4) fun y4 => mP 22 (.sl 5 (.int .u8)) (.o (.o .s)) (st 5) fun y5 => mFn 36 [] [(5, [.der])] (st 6) (mP 89 (.pair (.sl 86 (.sl 85 (.pair (.pair (.int .u64) (.pair (.int .u64) .unit)) (.pair (.pair (.int .i64) (.pair (.int .u64) .unit)) .unit)))) .unit) .s (st 8) fun y8 => mV (.sl 89 (.pair (.sl 86 (.sl 85 (.pair (.pair (.int .u64) (.pair (.int .u64) .unit)) (.pair (.pair (.int .i64) (.pair (.int .u64) .unit)) .unit)))) .unit)) .s (st 21) fun y21 => mV (.int .i64) .s (st 22) fun y22 => mV (.int .i64) .s (st 23) fun y23 => mV (.sl 75 (.int .u64)) (.o .s) (st 39) fun y39 => mAl 5 [.der] (st 100) (mLz 39 [] (st 104) (mV (.int .i64) .s (st 105) fun y105 => mV (.int .i64) .s (st 106) fun y106 => loopN (B_cert_Putx0_1 (fun e4 e5 e8 e21 e22 e23 => K (.exit 0) (St.ofList [(4, (.v .bool .s e4)), (5, (.v (.ptr 22 (.sl 5 (.int .u8))) (.o (.o .s)) (some e5))), (6, (.fn 36 [] [(5, [.der])])), (8, (.v (.ptr 89 (.pair (.sl 86 (.sl 85 (.pair (.pair (.int .u64) (.pair (.int .u64) .unit)) (.pair (.pair (.int .i64) (.pair (.int .u64) .unit)) .unit)))) .unit)) .s (some e8))), (21, (.v (.sl 89 (.pair (.sl 86 (.sl 85 (.pair (.pair (.int .u64) (.pair (.int .u64) .unit)) (.pair (.pair (.int .i64) (.pair (.int .u64) .unit)) .unit)))) .unit)) .s e21)), (22, (.v (.int .i64) .s e22)), (23, (.v (.int .i64) .s e23))]))) (fuel_cert_Putx0_1 ⟨y4, y5, y8, y21, y22, y23, y39, y105, y106⟩) ⟨y4, y5, y8, y21, y22, y23, y39, y105, y106⟩))))
  | _, _ => none
theorem step_cert_Putx0_1 (R : Type) (K : Ex → St → Option R) (rec : St → Option R) (x : X_cert_Putx0_1) : evC env_cert_Putx0 lp_cert_Putx0 inl0 c_cert_Putx0_1 (S_cert_Putx0_1 x) (fun e st => match e with | .normal => coerce [(4, false), (5, false), (6, false), (8, false), (21, false), (22, false), (23, false), (39, false), (100, false), (104, false), (105, false), (106, false)] st rec | e => coerce (out_cert_Putx0_1 e) st (K e)) = B_cert_Putx0_1 (fun e4 e5 e8 e21 e22 e23 => K (.exit 0) (St.ofList [(4, (.v .bool .s e4)), (5, (.v (.ptr 22 (.sl 5 (.int .u8))) (.o (.o .s)) (some e5))), (6, (.fn 36 [] [(5, [.der])])), (8, (.v (.ptr 89 (.pair (.sl 86 (.sl 85 (.pair (.pair (.int .u64) (.pair (.int .u64) .unit)) (.pair (.pair (.int .i64) (.pair (.int .u64) .unit)) .unit)))) .unit)) .s (some e8))), (21, (.v (.sl 89 (.pair (.sl 86 (.sl 85 (.pair (.pair (.int .u64) (.pair (.int .u64) .unit)) (.pair (.pair (.int .i64) (.pair (.int .u64) .unit)) .unit)))) .unit)) .s e21)), (22, (.v (.int .i64) .s e22)), (23, (.v (.int .i64) .s e23))])) (fun x => rec (S_cert_Putx0_1 x)) x := by kernel_rfl
theorem ok_cert_Putx0_1 : LoopOk env_cert_Putx0 lp_cert_Putx0 inl0 c_cert_Putx0_1 := by
  refine loopOk_of (hd := [(4, false), (5, false), (6, false), (8, false), (21, false), (22, false), (23, false), (39, false), (100, false), (104, false), (105, false), (106, false)]) (out := out_cert_Putx0_1) (S := S_cert_Putx0_1) (fun _ K => B_cert_Putx0_1 (fun e4 e5 e8 e21 e22 e23 => K (.exit 0) (St.ofList [(4, (.v .bool .s e4)), (5, (.v (.ptr 22 (.sl 5 (.int .u8))) (.o (.o .s)) (some e5))), (6, (.fn 36 [] [(5, [.der])])), (8, (.v (.ptr 89 (.pair (.sl 86 (.sl 85 (.pair (.pair (.int .u64) (.pair (.int .u64) .unit)) (.pair (.pair (.int .i64) (.pair (.int .u64) .unit)) .unit)))) .unit)) .s (some e8))), (21, (.v (.sl 89 (.pair (.sl 86 (.sl 85 (.pair (.pair (.int .u64) (.pair (.int .u64) .unit)) (.pair (.pair (.int .i64) (.pair (.int .u64) .unit)) .unit)))) .unit)) .s e21)), (22, (.v (.int .i64) .s e22)), (23, (.v (.int .i64) .s e23))]))) fuel_cert_Putx0_1 1 step_cert_Putx0_1 (by kernel_rfl) (fun R K => fun st => mV .bool .s (st 4) fun y4 => mP 22 (.sl 5 (.int .u8)) (.o (.o .s)) (st 5) fun y5 => mFn 36 [] [(5, [.der])] (st 6) (mP 89 (.pair (.sl 86 (.sl 85 (.pair (.pair (.int .u64) (.pair (.int .u64) .unit)) (.pair (.pair (.int .i64) (.pair (.int .u64) .unit)) .unit)))) .unit) .s (st 8) fun y8 => mV (.sl 89 (.pair (.sl 86 (.sl 85 (.pair (.pair (.int .u64) (.pair (.int .u64) .unit)) (.pair (.pair (.int .i64) (.pair (.int .u64) .unit)) .unit)))) .unit)) .s (st 21) fun y21 => mV (.int .i64) .s (st 22) fun y22 => mV (.int .i64) .s (st 23) fun y23 => mV (.sl 75 (.int .u64)) (.o .s) (st 39) fun y39 => mAl 5 [.der] (st 100) (mLz 39 [] (st 104) (mV (.int .i64) .s (st 105) fun y105 => mV (.int .i64) .s (st 106) fun y106 => loopN (B_cert_Putx0_1 (fun e4 e5 e8 e21 e22 e23 => K (.exit 0) (St.ofList [(4, (.v .bool .s e4)), (5, (.v (.ptr 22 (.sl 5 (.int .u8))) (.o (.o .s)) (some e5))), (6, (.fn 36 [] [(5, [.der])])), (8, (.v (.ptr 89 (.pair (.sl 86 (.sl 85 (.pair (.pair (.int .u64) (.pair (.int .u64) .unit)) (.pair (.pair (.int .i64) (.pair (.int .u64) .unit)) .unit)))) .unit)) .s (some e8))), (21, (.v (.sl 89 (.pair (.sl 86 (.sl 85 (.pair (.pair (.int .u64) (.pair (.int .u64) .unit)) (.pair (.pair (.int .i64) (.pair (.int .u64) .unit)) .unit)))) .unit)) .s e21)), (22, (.v (.int .i64) .s e22)), (23, (.v (.int .i64) .s e23))]))) (fuel_cert_Putx0_1 ⟨y4, y5, y8, y21, y22, y23, y39, y105, y106⟩) ⟨y4, y5, y8, y21, y22, y23, y39, y105, y106⟩)))) (fun R st K => by kernel_rfl) ?_
  intro R K st r h
  obtain ⟨y4, hy4, h⟩ := mV_inv h
  obtain ⟨y5, hy5, h⟩ := mP_inv h
  obtain ⟨hy6, h⟩ := mFn_inv h
  obtain ⟨y8, hy8, h⟩ := mP_inv h
  obtain ⟨y21, hy21, h⟩ := mV_inv h
  obtain ⟨y22, hy22, h⟩ := mV_inv h
  obtain ⟨y23, hy23, h⟩ := mV_inv h
  obtain ⟨y39, hy39, h⟩ := mV_inv h
  obtain ⟨hy100, h⟩ := mAl_inv h
  obtain ⟨hy104, h⟩ := mLz_inv h
  obtain ⟨y105, hy105, h⟩ := mV_inv h
  obtain ⟨y106, hy106, h⟩ := mV_inv h
  exact ⟨⟨y4, y5, y8, y21, y22, y23, y39, y105, y106⟩, only_of_list (ofList_cons hy4 (ofList_cons hy5 (ofList_cons hy6 (ofList_cons hy8 (ofList_cons hy21 (ofList_cons hy22 (ofList_cons hy23 (ofList_cons hy39 (ofList_cons hy100 (ofList_cons hy104 (ofList_cons hy105 (ofList_cons hy106 rfl)))))))))))), h⟩
theorem loops_cert_Putx0 : LoopsOk env_cert_Putx0 lp_cert_Putx0 inl0 (body Try.f36.body) := by
  refine loopsOk_of (fun c hc => ?_) (fun c hc => ?_)
  · rw [show loopsL (body Try.f36.body) = [c_cert_Putx0_1] by kernel_rfl] at hc
    simp only [List.mem_cons, List.not_mem_nil, or_false] at hc
    rcases hc with rfl
    · exact ok_cert_Putx0_1
  · rw [show joinsL env_cert_Putx0 (body Try.f36.body) = [] by kernel_rfl] at hc; cases hc
theorem inlF_cert_Putx0 : InlF Try.prog env_cert_Putx0.b 36 (fun R st xs K Kp => match Nat.ble xs.length env_cert_Putx0.n with | true => evC env_cert_Putx0 lp_cert_Putx0 inl0 (body Try.f36.body) (st.enter env_cert_Putx0.b xs) (inlK env_cert_Putx0 [] K Kp) | false => none) :=
  inlF_of mixed ⟨envTyOk.ty, envTyOk.eq⟩ gamOk_cert_Putx0 inl0_ok Try.func36 (by kernel_rfl) (by kernel_rfl) (by kernel_rfl) (by kernel_rfl) (by kernel_rfl) loops_cert_Putx0 (by kernel_rfl)
noncomputable def gam_cert_Putx1 : FuncId → List FuncId → Option CSpec
  | 33, [] => some cs_leb_PutU
  | _, _ => none
noncomputable def il_cert_Putx1 : Nat → Bool
  | 36 => true
  | _ => false
noncomputable def lv_cert_Putx1 : Nat → Option (List Nat)
  | 0 => some [4, 5, 6, 10, 21, 22, 23, 42, 43, 44, 58, 99, 100]
  | 1 => some [4, 5, 6, 10, 21, 22, 23, 42, 43, 44, 58, 100, 104, 105, 106]
  | 2 => some [4, 5, 6, 10, 21, 22, 23, 42, 43, 44, 58, 100, 104, 105, 106]
  | 3 => some [4, 5, 6, 10, 21, 22, 23, 42, 43, 44, 58, 100, 103, 104, 105, 106]
  | 4 => some [4, 5, 6, 10, 21, 22, 23, 42, 43, 44, 58, 100, 104, 105, 106]
  | _ => none
noncomputable def env_cert_Putx1 : Env := { ty := envTy, eq := envEq, gam := gam_cert_Putx1, n := Try.f36.ntmps, il := il_cert_Putx1, lv := lv_cert_Putx1, b := 99 }
theorem gamOk_cert_Putx1 : EnvFn Try.prog env_cert_Putx1 := by
  intro f gs c h
  unfold env_cert_Putx1 gam_cert_Putx1 at h
  simp only at h
  split at h <;> first | (cases h; done) | (cases h; exact h_leb_PutU)
structure X_cert_Putx1_1 where
  f4 : Bool
  f5 : List (Int)
  f10 : List (((Int) × (Int) × Unit) × ((Int) × (Int) × Unit) × Unit)
  f21 : List ((List (List (((Int) × (Int) × Unit) × ((Int) × (Int) × Unit) × Unit))) × Unit)
  f22 : Int
  f23 : Int
  f42 : List (List (((Int) × (Int) × Unit) × ((Int) × (Int) × Unit) × Unit))
  f43 : Int
  f44 : Int
  f58 : List (Int)
  f105 : Int
  f106 : Int

noncomputable def B_cert_Putx1_1 {R : Type} (k_exit_0 : Bool → (List (Int)) → (List (((Int) × (Int) × Unit) × ((Int) × (Int) × Unit) × Unit)) → (List ((List (List (((Int) × (Int) × Unit) × ((Int) × (Int) × Unit) × Unit))) × Unit)) → Int → Int → (List (List (((Int) × (Int) × Unit) × ((Int) × (Int) × Unit) × Unit))) → Int → Int → Option R) (rec : X_cert_Putx1_1 → Option R) (x : X_cert_Putx1_1) : Option R :=
  let v1 := decide (x.f106 < x.f105)
  cond v1
  (cond (inB x.f106 (List.length x.f58))
  (let v2 := (List.getD x.f58 x.f106.toNat (0 : Int))
  p_leb_PutU x.f5 v2 fun r3 =>
  let v4 := IntKind.i64.wrap (x.f106 + (1 : Int))
  rec ⟨x.f4, r3, x.f10, x.f21, x.f22, x.f23, x.f42, x.f43, x.f44, x.f58, x.f105, v4⟩) none)
  (k_exit_0 x.f4 x.f5 x.f10 x.f21 x.f22 x.f23 x.f42 x.f43 x.f44)
noncomputable def S_cert_Putx1_1 (x : X_cert_Putx1_1) : St := St.ofList [(4, (.v .bool .s x.f4)), (5, (.v (.ptr 22 (.sl 5 (.int .u8))) (.o (.o .s)) (some x.f5))), (6, (.fn 36 [] [(5, [.der])])), (10, (.v (.sl 85 (.pair (.pair (.int .u64) (.pair (.int .u64) .unit)) (.pair (.pair (.int .i64) (.pair (.int .u64) .unit)) .unit))) .s x.f10)), (21, (.v (.sl 89 (.pair (.sl 86 (.sl 85 (.pair (.pair (.int .u64) (.pair (.int .u64) .unit)) (.pair (.pair (.int .i64) (.pair (.int .u64) .unit)) .unit)))) .unit)) .s x.f21)), (22, (.v (.int .i64) .s x.f22)), (23, (.v (.int .i64) .s x.f23)), (42, (.v (.sl 86 (.sl 85 (.pair (.pair (.int .u64) (.pair (.int .u64) .unit)) (.pair (.pair (.int .i64) (.pair (.int .u64) .unit)) .unit)))) .s x.f42)), (43, (.v (.int .i64) .s x.f43)), (44, (.v (.int .i64) .s x.f44)), (58, (.v (.sl 75 (.int .u64)) (.o .s) x.f58)), (100, (.al 5 [.der])), (104, (.lz 58 [])), (105, (.v (.int .i64) .s x.f105)), (106, (.v (.int .i64) .s x.f106))]
def out_cert_Putx1_1 : Ex → List (Nat × Bool) | .exit 0 => [(4, false), (5, false), (6, false), (10, false), (21, false), (22, false), (23, false), (42, false), (43, false), (44, false)] | _ => []
noncomputable def fuel_cert_Putx1_1 (x : X_cert_Putx1_1) : Nat := fuel64
noncomputable def c_cert_Putx1_1 : Code := match loopAt 1 (body Try.f36.body) with | some c => c | none => .skip
noncomputable def lp_cert_Putx1 : Loops := fun z i R st K => match z, i with
  | false, 1 => coerce [(4, false), (5, false), (6, false), (10, false), (21, false), (22, false), (23, false), (42, false), (43, false), (44, false), (58, false), (100, false), (104, false), (105, false), (106, false)] st (fun st => mV .bool .s (st 4) fun y4 => mP 22 (.sl 5 (.int .u8)) (.o (.o .s)) (st 5) fun y5 => mFn 36 [] [(5, [.der])] (st 6) (mV (.sl 85 (.pair (.pair (.int .u64) (.pair (.int .u64) .unit)) (.pair (.pair (.int .i64) (.pair (.int .u64) .unit)) .unit))) .s (st 10) fun y10 => mV (.sl 89 (.pair (.sl 86 (.sl 85 (.pair (.pair (.int .u64) (.pair (.int .u64) .unit)) (.pair (.pair (.int .i64) (.pair (.int .u64) .unit)) .unit)))) .unit)) .s (st 21) fun y21 => mV (.int .i64) .s (st 22) fun y22 => mV (.int .i64) .s (st 23) fun y23 => mV (.sl 86 (.sl 85 (.pair (.pair (.int .u64) (.pair (.int .u64) .unit)) (.pair (.pair (.int .i64) (.pair (.int .u64) .unit)) .unit)))) .s (st 42) fun y42 => mV (.int .i64) .s (st 43) fun y43 => mV (.int .i64) .s (st 44) fun y44 => mV (.sl 75 (.int .u64)) (.o .s) (st 58) fun y58 => mAl 5 [.der] (st 100) (mLz 58 [] (st 104) (mV (.int .i64) .s (st 105) fun y105 => mV (.int .i64) .s (st 106) fun y106 => loopN (B_cert_Putx1_1 (fun e4 e5 e10 e21 e22 e23 e42 e43 e44 => K (.exit 0) (St.ofList [(4, (.v .bool .s e4)), (5, (.v (.ptr 22 (.sl 5 (.int .u8))) (.o (.o .s)) (some e5))), (6, (.fn 36 [] [(5, [.der])])), (10, (.v (.sl 85 (.pair (.pair (.int .u64) (.pair (.int .u64) .unit)) (.pair (.pair (.int .i64) (.pair (.int .u64) .unit)) .unit))) .s e10)), (21, (.v (.sl 89 (.pair (.sl 86 (.sl 85 (.pair (.pair (.int .u64) (.pair (.int .u64) .unit)) (.pair (.pair (.int .i64) (.pair (.int .u64) .unit)) .unit)))) .unit)) .s e21)), (22, (.v (.int .i64) .s e22)), (23, (.v (.int .i64) .s e23)), (42, (.v (.sl 86 (.sl 85 (.pair (.pair (.int .u64) (.pair (.int .u64) .unit)) (.pair (.pair (.int .i64) (.pair (.int .u64) .unit)) .unit)))) .s e42)), (43, (.v (.int .i64) .s e43)), (44, (.v (.int .i64) .s e44))]))) (fuel_cert_Putx1_1 ⟨y4, y5, y10, y21, y22, y23, y42, y43, y44, y58, y105, y106⟩) ⟨y4, y5, y10, y21, y22, y23, y42, y43, y44, y58, y105, y106⟩))))
  | _, _ => none
theorem step_cert_Putx1_1 (R : Type) (K : Ex → St → Option R) (rec : St → Option R) (x : X_cert_Putx1_1) : evC env_cert_Putx1 lp_cert_Putx1 inl0 c_cert_Putx1_1 (S_cert_Putx1_1 x) (fun e st => match e with | .normal => coerce [(4, false), (5, false), (6, false), (10, false), (21, false), (22, false), (23, false), (42, false), (43, false), (44, false), (58, false), (100, false), (104, false), (105, false), (106, false)] st rec | e => coerce (out_cert_Putx1_1 e) st (K e)) = B_cert_Putx1_1 (fun e4 e5 e10 e21 e22 e23 e42 e43 e44 => K (.exit 0) (St.ofList [(4, (.v .bool .s e4)), (5, (.v (.ptr 22 (.sl 5 (.int .u8))) (.o (.o .s)) (some e5))), (6, (.fn 36 [] [(5, [.der])])), (10, (.v (.sl 85 (.pair (.pair (.int .u64) (.pair (.int .u64) .unit)) (.pair (.pair (.int .i64) (.pair (.int .u64) .unit)) .unit))) .s e10)), (21, (.v (.sl 89 (.pair (.sl 86 (.sl 85 (.pair (.pair (.int .u64) (.pair (.int .u64) .unit)) (.pair (.pair (.int .i64) (.pair (.int .u64) .unit)) .unit)))) .unit)) .s e21)), (22, (.v (.int .i64) .s e22)), (23, (.v (.int .i64) .s e23)), (42, (.v (.sl 86 (.sl 85 (.pair (.pair (.int .u64) (.pair (.int .u64) .unit)) (.pair (.pair (.int .i64) (.pair (.int .u64) .unit)) .unit)))) .s e42)), (43, (.v (.int .i64) .s e43)), (44, (.v (.int .i64) .s e44))])) (fun x => rec (S_cert_Putx1_1 x)) x := by kernel_rfl
theorem ok_cert_Putx1_1 : LoopOk env_cert_Putx1 lp_cert_Putx1 inl0 c_cert_Putx1_1 := by
  refine loopOk_of (hd := [(4, false), (5, false), (6, false), (10, false), (21, false), (22, false), (23, false), (42, false), (43, false), (44, false), (58, false), (100, false), (104, false), (105, false), (106, false)]) (out := out_cert_Putx1_1) (S := S_cert_Putx1_1) (fun _ K => B_cert_Putx1_1 (fun e4 e5 e10 e21 e22 e23 e42 e43 e44 => K (.exit 0) (St.ofList [(4, (.v .bool .s e4)), (5, (.v (.ptr 22 (.sl 5 (.int .u8))) (.o (.o .s)) (some e5))), (6, (.fn 36 [] [(5, [.der])])), (10, (.v (.sl 85 (.pair (.pair (.int .u64) (.pair (.int .u64) .unit)) (.pair (.pair (.int .i64) (.pair (.int .u64) .unit)) .unit))) .s e10)), (21, (.v (.sl 89 (.pair (.sl 86 (.sl 85 (.pair (.pair (.int .u64) (.pair (.int .u64) .unit)) (.pair (.pair (.int .i64) (.pair (.int .u64) .unit)) .unit)))) .unit)) .s e21)), (22, (.v (.int .i64) .s e22)), (23, (.v (.int .i64) .s e23)), (42, (.v (.sl 86 (.sl 85 (.pair (.pair (.int .u64) (.pair (.int .u64) .unit)) (.pair (.pair (.int .i64) (.pair (.int .u64) .unit)) .unit)))) .s e42)), (43, (.v (.int .i64) .s e43)), (44, (.v (.int .i64) .s e44))]))) fuel_cert_Putx1_1 1 step_cert_Putx1_1 (by kernel_rfl) (fun R K => fun st => mV .bool .s (st 4) fun y4 => mP 22 (.sl 5 (.int .u8)) (.o (.o .s)) (st 5) fun y5 => mFn 36 [] [(5, [.der])] (st 6) (mV (.sl 85 (.pair (.pair (.int .u64) (.pair (.int .u64) .unit)) (.pair (.pair (.int .i64) (.pair (.int .u64) .unit)) .unit))) .s (st 10) fun y10 => mV (.sl 89 (.pair (.sl 86 (.sl 85 (.pair (.pair (.int .u64) (.pair (.int .u64) .unit)) (.pair (.pair (.int .i64) (.pair (.int .u64) .unit)) .unit)))) .unit)) .s (st 21) fun y21 => mV (.int .i64) .s (st 22) fun y22 => mV (.int .i64) .s (st 23) fun y23 => mV (.sl 86 (.sl 85 (.pair (.pair (.int .u64) (.pair (.int .u64) .unit)) (.pair (.pair (.int .i64) (.pair (.int .u64) .unit)) .unit)))) .s (st 42) fun y42 => mV (.int .i64) .s (st 43) fun y43 => mV (.int .i64) .s (st 44) fun y44 => mV (.sl 75 (.int .u64)) (.o .s) (st 58) fun y58 => mAl 5 [.der] (st 100) (mLz 58 [] (st 104) (mV (.int .i64) .s (st 105) fun y105 => mV (.int .i64) .s (st 106) fun y106 => loopN (B_cert_Putx1_1 (fun e4 e5 e10 e21 e22 e23 e42 e43 e44 => K (.exit 0) (St.ofList [(4, (.v .bool .s e4)), (5, (.v (.ptr 22 (.sl 5 (.int .u8))) (.o (.o .s)) (some e5))), (6, (.fn 36 [] [(5, [.der])])), (10, (.v (.sl 85 (.pair (.pair (.int .u64) (.pair (.int .u64) .unit)) (.pair (.pair (.int .i64) (.pair (.int .u64) .unit)) .unit))) .s e10)), (21, (.v (.sl 89 (.pair (.sl 86 (.sl 85 (.pair (.pair (.int .u64) (.pair (.int .u64) .unit)) (.pair (.pair (.int .i64) (.pair (.int .u64) .unit)) .unit)))) .unit)) .s e21)), (22, (.v (.int .i64) .s e22)), (23, (.v (.int .i64) .s e23)), (42, (.v (.sl 86 (.sl 85 (.pair (.pair (.int .u64) (.pair (.int .u64) .unit)) (.pair (.pair (.int .i64) (.pair (.int .u64) .unit)) .unit)))) .s e42)), (43, (.v (.int .i64) .s e43)), (44, (.v (.int .i64) .s e44))]))) (fuel_cert_Putx1_1 ⟨y4, y5, y10, y21, y22, y23, y42, y43, y44, y58, y105, y106⟩) ⟨y4, y5, y10, y21, y22, y23, y42, y43, y44, y58, y105, y106⟩)))) (fun R st K => by kernel_rfl) ?_
  intro R K st r h
  obtain ⟨y4, hy4, h⟩ := mV_inv h
  obtain ⟨y5, hy5, h⟩ := mP_inv h
  obtain ⟨hy6, h⟩ := mFn_inv h
  obtain ⟨y10, hy10, h⟩ := mV_inv h
  obtain ⟨y21, hy21, h⟩ := mV_inv h
  obtain ⟨y22, hy22, h⟩ := mV_inv h
  obtain ⟨y23, hy23, h⟩ := mV_inv h
  obtain ⟨y42, hy42, h⟩ := mV_inv h
  obtain ⟨y43, hy43, h⟩ := mV_inv h
  obtain ⟨y44, hy44, h⟩ := mV_inv h
  obtain ⟨y58, hy58, h⟩ := mV_inv h
  obtain ⟨hy100, h⟩ := mAl_inv h
  obtain ⟨hy104, h⟩ := mLz_inv h
  obtain ⟨y105, hy105, h⟩ := mV_inv h
  obtain ⟨y106, hy106, h⟩ := mV_inv h
  exact ⟨⟨y4, y5, y10, y21, y22, y23, y42, y43, y44, y58, y105, y106⟩, only_of_list (ofList_cons hy4 (ofList_cons hy5 (ofList_cons hy6 (ofList_cons hy10 (ofList_cons hy21 (ofList_cons hy22 (ofList_cons hy23 (ofList_cons hy42 (ofList_cons hy43 (ofList_cons hy44 (ofList_cons hy58 (ofList_cons hy100 (ofList_cons hy104 (ofList_cons hy105 (ofList_cons hy106 rfl))))))))))))))), h⟩
theorem loops_cert_Putx1 : LoopsOk env_cert_Putx1 lp_cert_Putx1 inl0 (body Try.f36.body) := by
  refine loopsOk_of (fun c hc => ?_) (fun c hc => ?_)
  · rw [show loopsL (body Try.f36.body) = [c_cert_Putx1_1] by kernel_rfl] at hc
    simp only [List.mem_cons, List.not_mem_nil, or_false] at hc
    rcases hc with rfl
    · exact ok_cert_Putx1_1
  · rw [show joinsL env_cert_Putx1 (body Try.f36.body) = [] by kernel_rfl] at hc; cases hc
theorem inlF_cert_Putx1 : InlF Try.prog env_cert_Putx1.b 36 (fun R st xs K Kp => match Nat.ble xs.length env_cert_Putx1.n with | true => evC env_cert_Putx1 lp_cert_Putx1 inl0 (body Try.f36.body) (st.enter env_cert_Putx1.b xs) (inlK env_cert_Putx1 [] K Kp) | false => none) :=
  inlF_of mixed ⟨envTyOk.ty, envTyOk.eq⟩ gamOk_cert_Putx1 inl0_ok Try.func36 (by kernel_rfl) (by kernel_rfl) (by kernel_rfl) (by kernel_rfl) (by kernel_rfl) loops_cert_Putx1 (by kernel_rfl)
noncomputable def gam_cert_Putx2 : FuncId → List FuncId → Option CSpec
  | 33, [] => some cs_leb_PutU
  | _, _ => none
noncomputable def il_cert_Putx2 : Nat → Bool
  | 36 => true
  | _ => false
noncomputable def lv_cert_Putx2 : Nat → Option (List Nat)
  | 0 => some [4, 5, 6, 21, 22, 23, 42, 43, 44, 60, 61, 62, 86, 99, 100]
  | 1 => some [4, 5, 6, 21, 22, 23, 42, 43, 44, 60, 61, 62, 86, 100, 104, 105, 106]
  | 2 => some [4, 5, 6, 21, 22, 23, 42, 43, 44, 60, 61, 62, 86, 100, 104, 105, 106]
  | 3 => some [4, 5, 6, 21, 22, 23, 42, 43, 44, 60, 61, 62, 86, 100, 103, 104, 105, 106]
  | 4 => some [4, 5, 6, 21, 22, 23, 42, 43, 44, 60, 61, 62, 86, 100, 104, 105, 106]
  | _ => none
noncomputable def env_cert_Putx2 : Env := { ty := envTy, eq := envEq, gam := gam_cert_Putx2, n := Try.f36.ntmps, il := il_cert_Putx2, lv := lv_cert_Putx2, b := 99 }
theorem gamOk_cert_Putx2 : EnvFn Try.prog env_cert_Putx2 := by
  intro f gs c h
  unfold env_cert_Putx2 gam_cert_Putx2 at h
  simp only at h
  split at h <;> first | (cases h; done) | (cases h; exact h_leb_PutU)
structure X_cert_Putx2_1 where
  f4 : Bool
  f5 : List (Int)
  f21 : List ((List (List (((Int) × (Int) × Unit) × ((Int) × (Int) × Unit) × Unit))) × Unit)
  f22 : Int
  f23 : Int
  f42 : List (List (((Int) × (Int) × Unit) × ((Int) × (Int) × Unit) × Unit))
  f43 : Int
  f44 : Int
  f60 : List (((Int) × (Int) × Unit) × ((Int) × (Int) × Unit) × Unit)
  f61 : Int
  f62 : Int
  f86 : List (Int)
  f105 : Int
  f106 : Int

noncomputable def B_cert_Putx2_1 {R : Type} (k_exit_0 : Bool → (List (Int)) → (List ((List (List (((Int) × (Int) × Unit) × ((Int) × (Int) × Unit) × Unit))) × Unit)) → Int → Int → (List (List (((Int) × (Int) × Unit) × ((Int) × (Int) × Unit) × Unit))) → Int → Int → (List (((Int) × (Int) × Unit) × ((Int) × (Int) × Unit) × Unit)) → Int → Int → Option R) (rec : X_cert_Putx2_1 → Option R) (x : X_cert_Putx2_1) : Option R :=
  let v1 := decide (x.f106 < x.f105)
  cond v1
  (cond (inB x.f106 (List.length x.f86))
  (let v2 := (List.getD x.f86 x.f106.toNat (0 : Int))
  p_leb_PutU x.f5 v2 fun r3 =>
  let v4 := IntKind.i64.wrap (x.f106 + (1 : Int))
  rec ⟨x.f4, r3, x.f21, x.f22, x.f23, x.f42, x.f43, x.f44, x.f60, x.f61, x.f62, x.f86, x.f105, v4⟩) none)
  (k_exit_0 x.f4 x.f5 x.f21 x.f22 x.f23 x.f42 x.f43 x.f44 x.f60 x.f61 x.f62)
noncomputable def S_cert_Putx2_1 (x : X_cert_Putx2_1) : St := St.ofList [(4, (.v .bool .s x.f4)), (5, (.v (.ptr 22 (.sl 5 (.int .u8))) (.o (.o .s)) (some x.f5))), (6, (.fn 36 [] [(5, [.der])])), (21, (.v (.sl 89 (.pair (.sl 86 (.sl 85 (.pair (.pair (.int .u64) (.pair (.int .u64) .unit)) (.pair (.pair (.int .i64) (.pair (.int .u64) .unit)) .unit)))) .unit)) .s x.f21)), (22, (.v (.int .i64) .s x.f22)), (23, (.v (.int .i64) .s x.f23)), (42, (.v (.sl 86 (.sl 85 (.pair (.pair (.int .u64) (.pair (.int .u64) .unit)) (.pair (.pair (.int .i64) (.pair (.int .u64) .unit)) .unit)))) .s x.f42)), (43, (.v (.int .i64) .s x.f43)), (44, (.v (.int .i64) .s x.f44)), (60, (.v (.sl 85 (.pair (.pair (.int .u64) (.pair (.int .u64) .unit)) (.pair (.pair (.int .i64) (.pair (.int .u64) .unit)) .unit))) .s x.f60)), (61, (.v (.int .i64) .s x.f61)), (62, (.v (.int .i64) .s x.f62)), (86, (.v (.sl 75 (.int .u64)) (.o .s) x.f86)), (100, (.al 5 [.der])), (104, (.lz 86 [])), (105, (.v (.int .i64) .s x.f105)), (106, (.v (.int .i64) .s x.f106))]
def out_cert_Putx2_1 : Ex → List (Nat × Bool) | .exit 0 => [(4, false), (5, false), (6, false), (21, false), (22, false), (23, false), (42, false), (43, false), (44, false), (60, false), (61, false), (62, false)] | _ => []
noncomputable def fuel_cert_Putx2_1 (x : X_cert_Putx2_1) : Nat := fuel64
noncomputable def c_cert_Putx2_1 : Code := match loopAt 1 (body Try.f36.body) with | some c => c | none => .skip
noncomputable def lp_cert_Putx2 : Loops := fun z i R st K => match z, i with
  | false, 1 => coerce [(4, false), (5, false), (6, false), (21, false), (22, false), (23, false), (42, false), (43, false), (44, false), (60, false), (61, false), (62, false), (86, false), (100, false), (104, false), (105, false), (106, false)] st (fun st => mV .bool .s (st 4) fun y4 => mP 22 (.sl 5 (.int .u8)) (.o (.o .s)) (st 5) fun y5 => mFn 36 [] [(5, [.der])] (st 6) (mV (.sl 89 (.pair (.sl 86 (.sl 85 (.pair (.pair (.int .u64) (.pair (.int .u64) .unit)) (.pair (.pair (.int .i64) (.pair (.int .u64) .unit)) .unit)))) .unit)) .s (st 21) fun y21 => mV (.int .i64) .s (st 22) fun y22 => mV (.int .i64) .s (st 23) fun y23 => mV (.sl 86 (.sl 85 (.pair (.pair (.int .u64) (.pair (.int .u64) .unit)) (.pair (.pair (.int .i64) (.pair (.int .u64) .unit)) .unit)))) .s (st 42) fun y42 => mV (.int .i64) .s (st 43) fun y43 => mV (.int .i64) .s (st 44) fun y44 => mV (.sl 85 (.pair (.pair (.int .u64) (.pair (.int .u64) .unit)) (.pair (.pair (.int .i64) (.pair (.int .u64) .unit)) .unit))) .s (st 60) fun y60 => mV (.int .i64) .s (st 61) fun y61 => mV (.int .i64) .s (st 62) fun y62 => mV (.sl 75 (.int .u64)) (.o .s) (st 86) fun y86 => mAl 5 [.der] (st 100) (mLz 86 [] (st 104) (mV (.int .i64) .s (st 105) fun y105 => mV (.int .i64) .s (st 106) fun y106 => loopN (B_cert_Putx2_1 (fun e4 e5 e21 e22 e23 e42 e43 e44 e60 e61 e62 => K (.exit 0) (St.ofList [(4, (.v .bool .s e4)), (5, (.v (.ptr 22 (.sl 5 (.int .u8))) (.o (.o .s)) (some e5))), (6, (.fn 36 [] [(5, [.der])])), (21, (.v (.sl 89 (.pair (.sl 86 (.sl 85 (.pair (.pair (.int .u64) (.pair (.int .u64) .unit)) (.pair (.pair (.int .i64) (.pair (.int .u64) .unit)) .unit)))) .unit)) .s e21)), (22, (.v (.int .i64) .s e22)), (23, (.v (.int .i64) .s e23)), (42, (.v (.sl 86 (.sl 85 (.pair (.pair (.int .u64) (.pair (.int .u64) .unit)) (.pair (.pair (.int .i64) (.pair (.int .u64) .unit)) .unit)))) .s e42)), (43, (.v (.int .i64) .s e43)), (44, (.v (.int .i64) .s e44)), (60, (.v (.sl 85 (.pair (.pair (.int .u64) (.pair (.int .u64) .unit)) (.pair (.pair (.int .i64) (.pair (.int .u64) .unit)) .unit))) .s e60)), (61, (.v (.int .i64) .s e61)), (62, (.v (.int .i64) .s e62))]))) (fuel_cert_Putx2_1 ⟨y4, y5, y21, y22, y23, y42, y43, y44, y60, y61, y62, y86, y105, y106⟩) ⟨y4, y5, y21, y22, y23, y42, y43, y44, y60, y61, y62, y86, y105, y106⟩))))
  | _, _ => none
theorem step_cert_Putx2_1 (R : Type) (K : Ex → St → Option R) (rec : St → Option R) (x : X_cert_Putx2_1) : evC env_cert_Putx2 lp_cert_Putx2 inl0 c_cert_Putx2_1 (S_cert_Putx2_1 x) (fun e st => match e with | .normal => coerce [(4, false), (5, false), (6, false), (21, false), (22, false), (23, false), (42, false), (43, false), (44, false), (60, false), (61, false), (62, false), (86, false), (100, false), (104, false), (105, false), (106, false)] st rec | e => coerce (out_cert_Putx2_1 e) st (K e)) = B_cert_Putx2_1 (fun e4 e5 e21 e22 e23 e42 e43 e44 e60 e61 e62 => K (.exit 0) (St.ofList [(4, (.v .bool .s e4)), (5, (.v (.ptr 22 (.sl 5 (.int .u8))) (.o (.o .s)) (some e5))), (6, (.fn 36 [] [(5, [.der])])), (21, (.v (.sl 89 (.pair (.sl 86 (.sl 85 (.pair (.pair (.int .u64) (.pair (.int .u64) .unit)) (.pair (.pair (.int .i64) (.pair (.int .u64) .unit)) .unit)))) .unit)) .s e21)), (22, (.v (.int .i64) .s e22)), (23, (.v (.int .i64) .s e23)), (42, (.v (.sl 86 (.sl 85 (.pair (.pair (.int .u64) (.pair (.int .u64) .unit)) (.pair (.pair (.int .i64) (.pair (.int .u64) .unit)) .unit)))) .s e42)), (43, (.v (.int .i64) .s e43)), (44, (.v (.int .i64) .s e44)), (60, (.v (.sl 85 (.pair (.pair (.int .u64) (.pair (.int .u64) .unit)) (.pair (.pair (.int .i64) (.pair (.int .u64) .unit)) .unit))) .s e60)), (61, (.v (.int .i64) .s e61)), (62, (.v (.int .i64) .s e62))])) (fun x => rec (S_cert_Putx2_1 x)) x := by kernel_rfl
theorem ok_cert_Putx2_1 : LoopOk env_cert_Putx2 lp_cert_Putx2 inl0 c_cert_Putx2_1 := by
  refine loopOk_of (hd := [(4, false), (5, false), (6, false), (21, false), (22, false), (23, false), (42, false), (43, false), (44, false), (60, false), (61, false), (62, false), (86, false), (100, false), (104, false), (105, false), (106, false)]) (out := out_cert_Putx2_1) (S := S_cert_Putx2_1) (fun _ K => B_cert_Putx2_1 (fun e4 e5 e21 e22 e23 e42 e43 e44 e60 e61 e62 => K (.exit 0) (St.ofList [(4, (.v .bool .s e4)), (5, (.v (.ptr 22 (.sl 5 (.int .u8))) (.o (.o .s)) (some e5))), (6, (.fn 36 [] [(5, [.der])])), (21, (.v (.sl 89 (.pair (.sl 86 (.sl 85 (.pair (.pair (.int .u64) (.pair (.int .u64) .unit)) (.pair (.pair (.int .i64) (.pair (.int .u64) .unit)) .unit)))) .unit)) .s e21)), (22, (.v (.int .i64) .s e22)), (23, (.v (.int .i64) .s e23)), (42, (.v (.sl 86 (.sl 85 (.pair (.pair (.int .u64) (.pair (.int .u64) .unit)) (.pair (.pair (.int .i64) (.pair (.int .u64) .unit)) .unit)))) .s e42)), (43, (.v (.int .i64) .s e43)), (44, (.v (.int .i64) .s e44)), (60, (.v (.sl 85 (.pair (.pair (.int .u64) (.pair (.int .u64) .unit)) (.pair (.pair (.int .i64) (.pair (.int .u64) .unit)) .unit))) .s e60)), (61, (.v (.int .i64) .s e61)), (62, (.v (.int .i64) .s e62))]))) fuel_cert_Putx2_1 1 step_cert_Putx2_1 (by kernel_rfl) (fun R K => fun st => mV .bool .s (st 4) fun y4 => mP 22 (.sl 5 (.int .u8)) (.o (.o .s)) (st 5) fun y5 => mFn 36 [] [(5, [.der])] (st 6) (mV (.sl 89 (.pair (.sl 86 (.sl 85 (.pair (.pair (.int .u64) (.pair (.int .u64) .unit)) (.pair (.pair (.int .i64) (.pair (.int .u64) .unit)) .unit)))) .unit)) .s (st 21) fun y21 => mV (.int .i64) .s (st 22) fun y22 => mV (.int .i64) .s (st 23) fun y23 => mV (.sl 86 (.sl 85 (.pair (.pair (.int .u64) (.pair (.int .u64) .unit)) (.pair (.pair (.int .i64) (.pair (.int .u64) .unit)) .unit)))) .s (st 42) fun y42 => mV (.int .i64) .s (st 43) fun y43 => mV (.int .i64) .s (st 44) fun y44 => mV (.sl 85 (.pair (.pair (.int .u64) (.pair (.int .u64) .unit)) (.pair (.pair (.int .i64) (.pair (.int .u64) .unit)) .unit))) .s (st 60) fun y60 => mV (.int .i64) .s (st 61) fun y61 => mV (.int .i64) .s (st 62) fun y62 => mV (.sl 75 (.int .u64)) (.o .s) (st 86) fun y86 => mAl 5 [.der] (st 100) (mLz 86 [] (st 104) (mV (.int .i64) .s (st 105) fun y105 => mV (.int .i64) .s (st 106) fun y106 => loopN (B_cert_Putx2_1 (fun e4 e5 e21 e22 e23 e42 e43 e44 e60 e61 e62 => K (.exit 0) (St.ofList [(4, (.v .bool .s e4)), (5, (.v (.ptr 22 (.sl 5 (.int .u8))) (.o (.o .s)) (some e5))), (6, (.fn 36 [] [(5, [.der])])), (21, (.v (.sl 89 (.pair (.sl 86 (.sl 85 (.pair (.pair (.int .u64) (.pair (.int .u64) .unit)) (.pair (.pair (.int .i64) (.pair (.int .u64) .unit)) .unit)))) .unit)) .s e21)), (22, (.v (.int .i64) .s e22)), (23, (.v (.int .i64) .s e23)), (42, (.v (.sl 86 (.sl 85 (.pair (.pair (.int .u64) (.pair (.int .u64) .unit)) (.pair (.pair (.int .i64) (.pair (.int .u64) .unit)) .unit)))) .s e42)), (43, (.v (.int .i64) .s e43)), (44, (.v (.int .i64) .s e44)), (60, (.v (.sl 85 (.pair (.pair (.int .u64) (.pair (.int .u64) .unit)) (.pair (.pair (.int .i64) (.pair (.int .u64) .unit)) .unit))) .s e60)), (61, (.v (.int .i64) .s e61)), (62, (.v (.int .i64) .s e62))]))) (fuel_cert_Putx2_1 ⟨y4, y5, y21, y22, y23, y42, y43, y44, y60, y61, y62, y86, y105, y106⟩) ⟨y4, y5, y21, y22, y23, y42, y43, y44, y60, y61, y62, y86, y105, y106⟩)))) (fun R st K => by kernel_rfl) ?_
  intro R K st r h
  obtain ⟨y4, hy4, h⟩ := mV_inv h
  obtain ⟨y5, hy5, h⟩ := mP_inv h
  obtain ⟨hy6, h⟩ := mFn_inv h
  obtain ⟨y21, hy21, h⟩ := mV_inv h
  obtain ⟨y22, hy22, h⟩ := mV_inv h
  obtain ⟨y23, hy23, h⟩ := mV_inv h
  obtain ⟨y42, hy42, h⟩ := mV_inv h
  obtain ⟨y43, hy43, h⟩ := mV_inv h
  obtain ⟨y44, hy44, h⟩ := mV_inv h
  obtain ⟨y60, hy60, h⟩ := mV_inv h
  obtain ⟨y61, hy61, h⟩ := mV_inv h
  obtain ⟨y62, hy62, h⟩ := mV_inv h
  obtain ⟨y86, hy86, h⟩ := mV_inv h
  obtain ⟨hy100, h⟩ := mAl_inv h
  obtain ⟨hy104, h⟩ := mLz_inv h
  obtain ⟨y105, hy105, h⟩ := mV_inv h
  obtain ⟨y106, hy106, h⟩ := mV_inv h
  exact ⟨⟨y4, y5, y21, y22, y23, y42, y43, y44, y60, y61, y62, y86, y105, y106⟩, only_of_list (ofList_cons hy4 (ofList_cons hy5 (ofList_cons hy6 (ofList_cons hy21 (ofList_cons hy22 (ofList_cons hy23 (ofList_cons hy42 (ofList_cons hy43 (ofList_cons hy44 (ofList_cons hy60 (ofList_cons hy61 (ofList_cons hy62 (ofList_cons hy86 (ofList_cons hy100 (ofList_cons hy104 (ofList_cons hy105 (ofList_cons hy106 rfl))))))))))))))))), h⟩
theorem loops_cert_Putx2 : LoopsOk env_cert_Putx2 lp_cert_Putx2 inl0 (body Try.f36.body) := by
  refine loopsOk_of (fun c hc => ?_) (fun c hc => ?_)
  · rw [show loopsL (body Try.f36.body) = [c_cert_Putx2_1] by kernel_rfl] at hc
    simp only [List.mem_cons, List.not_mem_nil, or_false] at hc
    rcases hc with rfl
    · exact ok_cert_Putx2_1
  · rw [show joinsL env_cert_Putx2 (body Try.f36.body) = [] by kernel_rfl] at hc; cases hc
theorem inlF_cert_Putx2 : InlF Try.prog env_cert_Putx2.b 36 (fun R st xs K Kp => match Nat.ble xs.length env_cert_Putx2.n with | true => evC env_cert_Putx2 lp_cert_Putx2 inl0 (body Try.f36.body) (st.enter env_cert_Putx2.b xs) (inlK env_cert_Putx2 [] K Kp) | false => none) :=
  inlF_of mixed ⟨envTyOk.ty, envTyOk.eq⟩ gamOk_cert_Putx2 inl0_ok Try.func36 (by kernel_rfl) (by kernel_rfl) (by kernel_rfl) (by kernel_rfl) (by kernel_rfl) loops_cert_Putx2 (by kernel_rfl)
noncomputable def gam_cert_Put : FuncId → List FuncId → Option CSpec
  | 33, [] => some cs_leb_PutU
  | 37, [] => some cs_abs_Right
  | _, _ => none
noncomputable def fs_cert_Put : Nat → Bool
  | 8 => true
  | 12 => true
  | _ => false
noncomputable def il_cert_Put : Nat → Bool
  | 36 => true
  | _ => false
noncomputable def lv_cert_Put : Nat → Option (List Nat)
  | 0 => some [0]
  | 1 => some [0]
  | 2 => some [0, 4]
  | 3 => some [0, 4, 5]
  | 4 => some [0, 4, 5, 6]
  | 5 => some [4, 5, 6, 21, 22, 23]
  | 6 => some [4, 5, 6, 21, 22, 23]
  | 7 => some [4, 5, 6, 8, 21, 22, 23]
  | 8 => some [4, 5, 6, 8, 21, 22, 23]
  | 9 => some [4, 5, 6, 8, 21, 22, 23]
  | 10 => some [4, 5, 6, 21, 22, 23, 42, 43, 44]
  | 11 => some [4, 5, 6, 21, 22, 23, 42, 43, 44]
  | 12 => some [4, 5, 6, 10, 21, 22, 23, 42, 43, 44]
  | 13 => some [4, 5, 6, 10, 21, 22, 23, 42, 43, 44]
  | 14 => some [4, 5, 6, 10, 21, 22, 23, 42, 43, 44]
  | 15 => some [4, 5, 6, 21, 22, 23, 42, 43, 44, 60, 61, 62]
  | 16 => some [4, 5, 6, 21, 22, 23, 42, 43, 44, 60, 61, 62]
  | 17 => some [4, 5, 6, 12, 21, 22, 23, 42, 43, 44, 60, 61, 62]
  | 18 => some []
  | 19 => some [4, 5, 6, 12, 21, 22, 23, 42, 43, 44, 60, 61, 62]
  | 20 => some [4, 5, 6, 12, 21, 22, 23, 42, 43, 44, 60, 61, 62]
  | 21 => some [4, 5, 6, 21, 22, 23, 42, 43, 44, 60, 61, 62]
  | 22 => some [4, 5, 6, 21, 22, 23, 42, 43, 44]
  | 23 => some [4, 5, 6, 21, 22, 23]
  | 24 => some [4, 5]
  | 25 => some []
  | 26 => some [5]
  | _ => none
noncomputable def env_cert_Put : Env := { ty := envTy, eq := envEq, gam := gam_cert_Put, n := Try.f16.ntmps, fs := fs_cert_Put, il := il_cert_Put, lv := lv_cert_Put }
theorem gamOk_cert_Put : EnvFn Try.prog env_cert_Put := by
  intro f gs c h
  unfold env_cert_Put gam_cert_Put at h
  simp only at h
  split at h <;> first | (cases h; done) | (cases h; exact h_leb_PutU) | (cases h; exact h_abs_Right)
noncomputable def inl_cert_Put : Inl := fun f d R st xs K Kp => match f, d with
  | 36, some 40 => match Nat.ble xs.length env_cert_Putx0.n with
    | true => evC env_cert_Putx0 lp_cert_Putx0 inl0 (body Try.f36.body) (st.enter env_cert_Putx0.b xs) (inlK env_cert_Putx0 [] K Kp)
    | false => none
  | 36, some 59 => match Nat.ble xs.length env_cert_Putx1.n with
    | true => evC env_cert_Putx1 lp_cert_Putx1 inl0 (body Try.f36.body) (st.enter env_cert_Putx1.b xs) (inlK env_cert_Putx1 [] K Kp)
    | false => none
  | 36, some 87 => match Nat.ble xs.length env_cert_Putx2.n with
    | true => evC env_cert_Putx2 lp_cert_Putx2 inl0 (body Try.f36.body) (st.enter env_cert_Putx2.b xs) (inlK env_cert_Putx2 [] K Kp)
    | false => none
  | _, _ => none
theorem inlOk_cert_Put : InlOk Try.prog env_cert_Put.top inl_cert_Put := inlOk_of fun f d => by
  unfold inl_cert_Put
  split
  · exact inlF_cert_Putx0
  · exact inlF_cert_Putx1
  · exact inlF_cert_Putx2
  · exact inlF_none
structure X_cert_Put_15 where
  f4 : Bool
  f5 : List (Int)
  f21 : List ((List (List (((Int) × (Int) × Unit) × ((Int) × (Int) × Unit) × Unit))) × Unit)
  f22 : Int
  f23 : Int
  f42 : List (List (((Int) × (Int) × Unit) × ((Int) × (Int) × Unit) × Unit))
  f43 : Int
  f44 : Int
  f60 : List (((Int) × (Int) × Unit) × ((Int) × (Int) × Unit) × Unit)
  f61 : Int
  f62 : Int

noncomputable def B_cert_Put_15 {R : Type} (k_ret : (List (Int)) → Int → Option R) (k_exit_4 : Bool → (List (Int)) → (List ((List (List (((Int) × (Int) × Unit) × ((Int) × (Int) × Unit) × Unit))) × Unit)) → Int → Int → (List (List (((Int) × (Int) × Unit) × ((Int) × (Int) × Unit) × Unit))) → Int → Int → Option R) (rec : X_cert_Put_15 → Option R) (x : X_cert_Put_15) : Option R :=
  let v1 := decide (x.f62 < x.f61)
  cond v1
  (cond (inB x.f62 (List.length x.f60))
  (let v2 := List.getD x.f60 x.f62.toNat (((0 : Int), ((0 : Int), ())), (((0 : Int), ((0 : Int), ())), ()))
  p_abs_Right v2 fun r3 =>
  let v4 := !r3
  cond v4
  (k_ret ([] : List (Int)) (2 : Int))
  (let v5 := ((List.length x.f5 : Nat) : Int)
  let v6 := decide (v5 ≤ (65536 : Int))
  cond v6
  (let v7 := IntKind.u64.wrap v2.2.1.1
  let v8 := List.set (List.set (List.set (List.set (List.replicate 4 (0 : Int)) 0 v2.1.1) 1 v2.1.2.1) 2 v7) 3 v2.2.1.2.1
  let v9 := ((List.length v8 : Nat) : Int)
  loopN (B_cert_Putx2_1 (fun w10 w11 w12 w13 w14 w15 w16 w17 w18 w19 w20 =>
  let v21 := IntKind.i64.wrap (w20 + (1 : Int))
  rec ⟨w10, w11, w12, w13, w14, w15, w16, w17, w18, w19, v21⟩)) (fuel_cert_Putx2_1 ⟨x.f4, x.f5, x.f21, x.f22, x.f23, x.f42, x.f43, x.f44, x.f60, x.f61, x.f62, v8, v9, (0 : Int)⟩) ⟨x.f4, x.f5, x.f21, x.f22, x.f23, x.f42, x.f43, x.f44, x.f60, x.f61, x.f62, v8, v9, (0 : Int)⟩)
  (let v22 := IntKind.i64.wrap (x.f62 + (1 : Int))
  rec ⟨x.f4, x.f5, x.f21, x.f22, x.f23, x.f42, x.f43, x.f44, x.f60, x.f61, v22⟩))) none)
  (k_exit_4 x.f4 x.f5 x.f21 x.f22 x.f23 x.f42 x.f43 x.f44)
noncomputable def S_cert_Put_15 (x : X_cert_Put_15) : St := St.ofList [(4, (.v .bool .s x.f4)), (5, (.v (.ptr 22 (.sl 5 (.int .u8))) (.o (.o .s)) (some x.f5))), (6, (.fn 36 [] [(5, [.der])])), (21, (.v (.sl 89 (.pair (.sl 86 (.sl 85 (.pair (.pair (.int .u64) (.pair (.int .u64) .unit)) (.pair (.pair (.int .i64) (.pair (.int .u64) .unit)) .unit)))) .unit)) .s x.f21)), (22, (.v (.int .i64) .s x.f22)), (23, (.v (.int .i64) .s x.f23)), (42, (.v (.sl 86 (.sl 85 (.pair (.pair (.int .u64) (.pair (.int .u64) .unit)) (.pair (.pair (.int .i64) (.pair (.int .u64) .unit)) .unit)))) .s x.f42)), (43, (.v (.int .i64) .s x.f43)), (44, (.v (.int .i64) .s x.f44)), (60, (.v (.sl 85 (.pair (.pair (.int .u64) (.pair (.int .u64) .unit)) (.pair (.pair (.int .i64) (.pair (.int .u64) .unit)) .unit))) .s x.f60)), (61, (.v (.int .i64) .s x.f61)), (62, (.v (.int .i64) .s x.f62))]
def out_cert_Put_15 : Ex → List (Nat × Bool) | .ret => [(2, false), (3, false)] | .exit 4 => [(4, false), (5, false), (6, false), (21, false), (22, false), (23, false), (42, false), (43, false), (44, false)] | _ => []
noncomputable def fuel_cert_Put_15 (x : X_cert_Put_15) : Nat := fuel64
noncomputable def c_cert_Put_15 : Code := match loopAt 15 (body Try.f16.body) with | some c => c | none => .skip
structure X_cert_Put_10 where
  f4 : Bool
  f5 : List (Int)
  f21 : List ((List (List (((Int) × (Int) × Unit) × ((Int) × (Int) × Unit) × Unit))) × Unit)
  f22 : Int
  f23 : Int
  f42 : List (List (((Int) × (Int) × Unit) × ((Int) × (Int) × Unit) × Unit))
  f43 : Int
  f44 : Int

noncomputable def B_cert_Put_10 {R : Type} (k_ret : (List (Int)) → Int → Option R) (k_exit_2 : Bool → (List (Int)) → (List ((List (List (((Int) × (Int) × Unit) × ((Int) × (Int) × Unit) × Unit))) × Unit)) → Int → Int → Option R) (rec : X_cert_Put_10 → Option R) (x : X_cert_Put_10) : Option R :=
  let v1 := decide (x.f44 < x.f43)
  cond v1
  (cond (inB x.f44 (List.length x.f42))
  (let v2 := List.getD x.f42 x.f44.toNat ([] : List (((Int) × (Int) × Unit) × ((Int) × (Int) × Unit) × Unit))
  cond x.f4
  (let v3 := ((List.length v2 : Nat) : Int)
  let v4 := IntKind.u64.wrap v3
  let v5 := List.set (List.replicate 1 (0 : Int)) 0 v4
  let v6 := ((List.length v5 : Nat) : Int)
  loopN (B_cert_Putx1_1 (fun w7 w8 w9 w10 w11 w12 w13 w14 w15 =>
  let v16 := ((List.length w9 : Nat) : Int)
  loopN (B_cert_Put_15 (fun w17 w18 =>
  k_ret w17 w18) (fun w19 w20 w21 w22 w23 w24 w25 w26 =>
  let v27 := IntKind.i64.wrap (w26 + (1 : Int))
  rec ⟨w19, w20, w21, w22, w23, w24, w25, v27⟩)) (fuel_cert_Put_15 ⟨w7, w8, w10, w11, w12, w13, w14, w15, w9, v16, (0 : Int)⟩) ⟨w7, w8, w10, w11, w12, w13, w14, w15, w9, v16, (0 : Int)⟩)) (fuel_cert_Putx1_1 ⟨true, x.f5, v2, x.f21, x.f22, x.f23, x.f42, x.f43, x.f44, v5, v6, (0 : Int)⟩) ⟨true, x.f5, v2, x.f21, x.f22, x.f23, x.f42, x.f43, x.f44, v5, v6, (0 : Int)⟩)
  (let v28 := ((List.length v2 : Nat) : Int)
  let v29 := decide (v28 > (64 : Int))
  let v30 := ((List.length v2 : Nat) : Int)
  let v31 := IntKind.u64.wrap v30
  let v32 := List.set (List.replicate 1 (0 : Int)) 0 v31
  let v33 := ((List.length v32 : Nat) : Int)
  loopN (B_cert_Putx1_1 (fun w34 w35 w36 w37 w38 w39 w40 w41 w42 =>
  let v43 := ((List.length w36 : Nat) : Int)
  loopN (B_cert_Put_15 (fun w44 w45 =>
  k_ret w44 w45) (fun w46 w47 w48 w49 w50 w51 w52 w53 =>
  let v54 := IntKind.i64.wrap (w53 + (1 : Int))
  rec ⟨w46, w47, w48, w49, w50, w51, w52, v54⟩)) (fuel_cert_Put_15 ⟨w34, w35, w37, w38, w39, w40, w41, w42, w36, v43, (0 : Int)⟩) ⟨w34, w35, w37, w38, w39, w40, w41, w42, w36, v43, (0 : Int)⟩)) (fuel_cert_Putx1_1 ⟨v29, x.f5, v2, x.f21, x.f22, x.f23, x.f42, x.f43, x.f44, v32, v33, (0 : Int)⟩) ⟨v29, x.f5, v2, x.f21, x.f22, x.f23, x.f42, x.f43, x.f44, v32, v33, (0 : Int)⟩)) none)
  (k_exit_2 x.f4 x.f5 x.f21 x.f22 x.f23)
noncomputable def S_cert_Put_10 (x : X_cert_Put_10) : St := St.ofList [(4, (.v .bool .s x.f4)), (5, (.v (.ptr 22 (.sl 5 (.int .u8))) (.o (.o .s)) (some x.f5))), (6, (.fn 36 [] [(5, [.der])])), (21, (.v (.sl 89 (.pair (.sl 86 (.sl 85 (.pair (.pair (.int .u64) (.pair (.int .u64) .unit)) (.pair (.pair (.int .i64) (.pair (.int .u64) .unit)) .unit)))) .unit)) .s x.f21)), (22, (.v (.int .i64) .s x.f22)), (23, (.v (.int .i64) .s x.f23)), (42, (.v (.sl 86 (.sl 85 (.pair (.pair (.int .u64) (.pair (.int .u64) .unit)) (.pair (.pair (.int .i64) (.pair (.int .u64) .unit)) .unit)))) .s x.f42)), (43, (.v (.int .i64) .s x.f43)), (44, (.v (.int .i64) .s x.f44))]
def out_cert_Put_10 : Ex → List (Nat × Bool) | .ret => [(2, false), (3, false)] | .exit 2 => [(4, false), (5, false), (6, false), (21, false), (22, false), (23, false)] | _ => []
noncomputable def fuel_cert_Put_10 (x : X_cert_Put_10) : Nat := fuel64
noncomputable def c_cert_Put_10 : Code := match loopAt 10 (body Try.f16.body) with | some c => c | none => .skip
structure X_cert_Put_5 where
  f4 : Bool
  f5 : List (Int)
  f21 : List ((List (List (((Int) × (Int) × Unit) × ((Int) × (Int) × Unit) × Unit))) × Unit)
  f22 : Int
  f23 : Int

noncomputable def B_cert_Put_5 {R : Type} (k_ret : (List (Int)) → Int → Option R) (k_exit_0 : Bool → (List (Int)) → Option R) (rec : X_cert_Put_5 → Option R) (x : X_cert_Put_5) : Option R :=
  let v1 := decide (x.f23 < x.f22)
  cond v1
  (cond (inB x.f23 (List.length x.f21))
  (let v2 := List.getD x.f21 x.f23.toNat (([] : List (List (((Int) × (Int) × Unit) × ((Int) × (Int) × Unit) × Unit))), ())
  cond x.f4
  (let v3 := ((List.length v2.1 : Nat) : Int)
  let v4 := IntKind.u64.wrap v3
  let v5 := List.set (List.replicate 1 (0 : Int)) 0 v4
  let v6 := ((List.length v5 : Nat) : Int)
  loopN (B_cert_Putx0_1 (fun w7 w8 w9 w10 w11 w12 =>
  let v13 := ((List.length w9.1 : Nat) : Int)
  loopN (B_cert_Put_10 (fun w14 w15 =>
  k_ret w14 w15) (fun w16 w17 w18 w19 w20 =>
  let v21 := IntKind.i64.wrap (w20 + (1 : Int))
  rec ⟨w16, w17, w18, w19, v21⟩)) (fuel_cert_Put_10 ⟨w7, w8, w10, w11, w12, w9.1, v13, (0 : Int)⟩) ⟨w7, w8, w10, w11, w12, w9.1, v13, (0 : Int)⟩)) (fuel_cert_Putx0_1 ⟨true, x.f5, v2, x.f21, x.f22, x.f23, v5, v6, (0 : Int)⟩) ⟨true, x.f5, v2, x.f21, x.f22, x.f23, v5, v6, (0 : Int)⟩)
  (let v22 := ((List.length v2.1 : Nat) : Int)
  let v23 := decide (v22 > (2000 : Int))
  let v24 := ((List.length v2.1 : Nat) : Int)
  let v25 := IntKind.u64.wrap v24
  let v26 := List.set (List.replicate 1 (0 : Int)) 0 v25
  let v27 := ((List.length v26 : Nat) : Int)
  loopN (B_cert_Putx0_1 (fun w28 w29 w30 w31 w32 w33 =>
  let v34 := ((List.length w30.1 : Nat) : Int)
  loopN (B_cert_Put_10 (fun w35 w36 =>
  k_ret w35 w36) (fun w37 w38 w39 w40 w41 =>
  let v42 := IntKind.i64.wrap (w41 + (1 : Int))
  rec ⟨w37, w38, w39, w40, v42⟩)) (fuel_cert_Put_10 ⟨w28, w29, w31, w32, w33, w30.1, v34, (0 : Int)⟩) ⟨w28, w29, w31, w32, w33, w30.1, v34, (0 : Int)⟩)) (fuel_cert_Putx0_1 ⟨v23, x.f5, v2, x.f21, x.f22, x.f23, v26, v27, (0 : Int)⟩) ⟨v23, x.f5, v2, x.f21, x.f22, x.f23, v26, v27, (0 : Int)⟩)) none)
  (k_exit_0 x.f4 x.f5)
noncomputable def S_cert_Put_5 (x : X_cert_Put_5) : St := St.ofList [(4, (.v .bool .s x.f4)), (5, (.v (.ptr 22 (.sl 5 (.int .u8))) (.o (.o .s)) (some x.f5))), (6, (.fn 36 [] [(5, [.der])])), (21, (.v (.sl 89 (.pair (.sl 86 (.sl 85 (.pair (.pair (.int .u64) (.pair (.int .u64) .unit)) (.pair (.pair (.int .i64) (.pair (.int .u64) .unit)) .unit)))) .unit)) .s x.f21)), (22, (.v (.int .i64) .s x.f22)), (23, (.v (.int .i64) .s x.f23))]
def out_cert_Put_5 : Ex → List (Nat × Bool) | .ret => [(2, false), (3, false)] | .exit 0 => [(4, false), (5, false)] | _ => []
noncomputable def fuel_cert_Put_5 (x : X_cert_Put_5) : Nat := fuel64
noncomputable def c_cert_Put_5 : Code := match loopAt 5 (body Try.f16.body) with | some c => c | none => .skip
noncomputable def lp_cert_Put : Loops := fun z i R st K => match z, i with
  | false, 15 => coerce [(4, false), (5, false), (6, false), (21, false), (22, false), (23, false), (42, false), (43, false), (44, false), (60, false), (61, false), (62, false)] st (fun st => mV .bool .s (st 4) fun y4 => mP 22 (.sl 5 (.int .u8)) (.o (.o .s)) (st 5) fun y5 => mFn 36 [] [(5, [.der])] (st 6) (mV (.sl 89 (.pair (.sl 86 (.sl 85 (.pair (.pair (.int .u64) (.pair (.int .u64) .unit)) (.pair (.pair (.int .i64) (.pair (.int .u64) .unit)) .unit)))) .unit)) .s (st 21) fun y21 => mV (.int .i64) .s (st 22) fun y22 => mV (.int .i64) .s (st 23) fun y23 => mV (.sl 86 (.sl 85 (.pair (.pair (.int .u64) (.pair (.int .u64) .unit)) (.pair (.pair (.int .i64) (.pair (.int .u64) .unit)) .unit)))) .s (st 42) fun y42 => mV (.int .i64) .s (st 43) fun y43 => mV (.int .i64) .s (st 44) fun y44 => mV (.sl 85 (.pair (.pair (.int .u64) (.pair (.int .u64) .unit)) (.pair (.pair (.int .i64) (.pair (.int .u64) .unit)) .unit))) .s (st 60) fun y60 => mV (.int .i64) .s (st 61) fun y61 => mV (.int .i64) .s (st 62) fun y62 => loopN (B_cert_Put_15 (fun e2 e3 => K .ret (St.ofList [(2, (.v (.sl 5 (.int .u8)) (.o .s) e2)), (3, (.v (.int .i64) .s e3))])) (fun e4 e5 e21 e22 e23 e42 e43 e44 => K (.exit 4) (St.ofList [(4, (.v .bool .s e4)), (5, (.v (.ptr 22 (.sl 5 (.int .u8))) (.o (.o .s)) (some e5))), (6, (.fn 36 [] [(5, [.der])])), (21, (.v (.sl 89 (.pair (.sl 86 (.sl 85 (.pair (.pair (.int .u64) (.pair (.int .u64) .unit)) (.pair (.pair (.int .i64) (.pair (.int .u64) .unit)) .unit)))) .unit)) .s e21)), (22, (.v (.int .i64) .s e22)), (23, (.v (.int .i64) .s e23)), (42, (.v (.sl 86 (.sl 85 (.pair (.pair (.int .u64) (.pair (.int .u64) .unit)) (.pair (.pair (.int .i64) (.pair (.int .u64) .unit)) .unit)))) .s e42)), (43, (.v (.int .i64) .s e43)), (44, (.v (.int .i64) .s e44))]))) (fuel_cert_Put_15 ⟨y4, y5, y21, y22, y23, y42, y43, y44, y60, y61, y62⟩) ⟨y4, y5, y21, y22, y23, y42, y43, y44, y60, y61, y62⟩))
  | false, 10 => coerce [(4, false), (5, false), (6, false), (21, false), (22, false), (23, false), (42, false), (43, false), (44, false)] st (fun st => mV .bool .s (st 4) fun y4 => mP 22 (.sl 5 (.int .u8)) (.o (.o .s)) (st 5) fun y5 => mFn 36 [] [(5, [.der])] (st 6) (mV (.sl 89 (.pair (.sl 86 (.sl 85 (.pair (.pair (.int .u64) (.pair (.int .u64) .unit)) (.pair (.pair (.int .i64) (.pair (.int .u64) .unit)) .unit)))) .unit)) .s (st 21) fun y21 => mV (.int .i64) .s (st 22) fun y22 => mV (.int .i64) .s (st 23) fun y23 => mV (.sl 86 (.sl 85 (.pair (.pair (.int .u64) (.pair (.int .u64) .unit)) (.pair (.pair (.int .i64) (.pair (.int .u64) .unit)) .unit)))) .s (st 42) fun y42 => mV (.int .i64) .s (st 43) fun y43 => mV (.int .i64) .s (st 44) fun y44 => loopN (B_cert_Put_10 (fun e2 e3 => K .ret (St.ofList [(2, (.v (.sl 5 (.int .u8)) (.o .s) e2)), (3, (.v (.int .i64) .s e3))])) (fun e4 e5 e21 e22 e23 => K (.exit 2) (St.ofList [(4, (.v .bool .s e4)), (5, (.v (.ptr 22 (.sl 5 (.int .u8))) (.o (.o .s)) (some e5))), (6, (.fn 36 [] [(5, [.der])])), (21, (.v (.sl 89 (.pair (.sl 86 (.sl 85 (.pair (.pair (.int .u64) (.pair (.int .u64) .unit)) (.pair (.pair (.int .i64) (.pair (.int .u64) .unit)) .unit)))) .unit)) .s e21)), (22, (.v (.int .i64) .s e22)), (23, (.v (.int .i64) .s e23))]))) (fuel_cert_Put_10 ⟨y4, y5, y21, y22, y23, y42, y43, y44⟩) ⟨y4, y5, y21, y22, y23, y42, y43, y44⟩))
  | false, 5 => coerce [(4, false), (5, false), (6, false), (21, false), (22, false), (23, false)] st (fun st => mV .bool .s (st 4) fun y4 => mP 22 (.sl 5 (.int .u8)) (.o (.o .s)) (st 5) fun y5 => mFn 36 [] [(5, [.der])] (st 6) (mV (.sl 89 (.pair (.sl 86 (.sl 85 (.pair (.pair (.int .u64) (.pair (.int .u64) .unit)) (.pair (.pair (.int .i64) (.pair (.int .u64) .unit)) .unit)))) .unit)) .s (st 21) fun y21 => mV (.int .i64) .s (st 22) fun y22 => mV (.int .i64) .s (st 23) fun y23 => loopN (B_cert_Put_5 (fun e2 e3 => K .ret (St.ofList [(2, (.v (.sl 5 (.int .u8)) (.o .s) e2)), (3, (.v (.int .i64) .s e3))])) (fun e4 e5 => K (.exit 0) (St.ofList [(4, (.v .bool .s e4)), (5, (.v (.ptr 22 (.sl 5 (.int .u8))) (.o (.o .s)) (some e5)))]))) (fuel_cert_Put_5 ⟨y4, y5, y21, y22, y23⟩) ⟨y4, y5, y21, y22, y23⟩))
  | _, _ => none
theorem step_cert_Put_15 (R : Type) (K : Ex → St → Option R) (rec : St → Option R) (x : X_cert_Put_15) : evC env_cert_Put lp_cert_Put inl_cert_Put c_cert_Put_15 (S_cert_Put_15 x) (fun e st => match e with | .normal => coerce [(4, false), (5, false), (6, false), (21, false), (22, false), (23, false), (42, false), (43, false), (44, false), (60, false), (61, false), (62, false)] st rec | e => coerce (out_cert_Put_15 e) st (K e)) = B_cert_Put_15 (fun e2 e3 => K .ret (St.ofList [(2, (.v (.sl 5 (.int .u8)) (.o .s) e2)), (3, (.v (.int .i64) .s e3))])) (fun e4 e5 e21 e22 e23 e42 e43 e44 => K (.exit 4) (St.ofList [(4, (.v .bool .s e4)), (5, (.v (.ptr 22 (.sl 5 (.int .u8))) (.o (.o .s)) (some e5))), (6, (.fn 36 [] [(5, [.der])])), (21, (.v (.sl 89 (.pair (.sl 86 (.sl 85 (.pair (.pair (.int .u64) (.pair (.int .u64) .unit)) (.pair (.pair (.int .i64) (.pair (.int .u64) .unit)) .unit)))) .unit)) .s e21)), (22, (.v (.int .i64) .s e22)), (23, (.v (.int .i64) .s e23)), (42, (.v (.sl 86 (.sl 85 (.pair (.pair (.int .u64) (.pair (.int .u64) .unit)) (.pair (.pair (.int .i64) (.pair (.int .u64) .unit)) .unit)))) .s e42)), (43, (.v (.int .i64) .s e43)), (44, (.v (.int .i64) .s e44))])) (fun x => rec (S_cert_Put_15 x)) x := by kernel_rfl
theorem ok_cert_Put_15 : LoopOk env_cert_Put lp_cert_Put inl_cert_Put c_cert_Put_15 := by
  refine loopOk_of (hd := [(4, false), (5, false), (6, false), (21, false), (22, false), (23, false), (42, false), (43, false), (44, false), (60, false), (61, false), (62, false)]) (out := out_cert_Put_15) (S := S_cert_Put_15) (fun _ K => B_cert_Put_15 (fun e2 e3 => K .ret (St.ofList [(2, (.v (.sl 5 (.int .u8)) (.o .s) e2)), (3, (.v (.int .i64) .s e3))])) (fun e4 e5 e21 e22 e23 e42 e43 e44 => K (.exit 4) (St.ofList [(4, (.v .bool .s e4)), (5, (.v (.ptr 22 (.sl 5 (.int .u8))) (.o (.o .s)) (some e5))), (6, (.fn 36 [] [(5, [.der])])), (21, (.v (.sl 89 (.pair (.sl 86 (.sl 85 (.pair (.pair (.int .u64) (.pair (.int .u64) .unit)) (.pair (.pair (.int .i64) (.pair (.int .u64) .unit)) .unit)))) .unit)) .s e21)), (22, (.v (.int .i64) .s e22)), (23, (.v (.int .i64) .s e23)), (42, (.v (.sl 86 (.sl 85 (.pair (.pair (.int .u64) (.pair (.int .u64) .unit)) (.pair (.pair (.int .i64) (.pair (.int .u64) .unit)) .unit)))) .s e42)), (43, (.v (.int .i64) .s e43)), (44, (.v (.int .i64) .s e44))]))) fuel_cert_Put_15 15 step_cert_Put_15 (by kernel_rfl) (fun R K => fun st => mV .bool .s (st 4) fun y4 => mP 22 (.sl 5 (.int .u8)) (.o (.o .s)) (st 5) fun y5 => mFn 36 [] [(5, [.der])] (st 6) (mV (.sl 89 (.pair (.sl 86 (.sl 85 (.pair (.pair (.int .u64) (.pair (.int .u64) .unit)) (.pair (.pair (.int .i64) (.pair (.int .u64) .unit)) .unit)))) .unit)) .s (st 21) fun y21 => mV (.int .i64) .s (st 22) fun y22 => mV (.int .i64) .s (st 23) fun y23 => mV (.sl 86 (.sl 85 (.pair (.pair (.int .u64) (.pair (.int .u64) .unit)) (.pair (.pair (.int .i64) (.pair (.int .u64) .unit)) .unit)))) .s (st 42) fun y42 => mV (.int .i64) .s (st 43) fun y43 => mV (.int .i64) .s (st 44) fun y44 => mV (.sl 85 (.pair (.pair (.int .u64) (.pair (.int .u64) .unit)) (.pair (.pair (.int .i64) (.pair (.int .u64) .unit)) .unit))) .s (st 60) fun y60 => mV (.int .i64) .s (st 61) fun y61 => mV (.int .i64) .s (st 62) fun y62 => loopN (B_cert_Put_15 (fun e2 e3 => K .ret (St.ofList [(2, (.v (.sl 5 (.int .u8)) (.o .s) e2)), (3, (.v (.int .i64) .s e3))])) (fun e4 e5 e21 e22 e23 e42 e43 e44 => K (.exit 4) (St.ofList [(4, (.v .bool .s e4)), (5, (.v (.ptr 22 (.sl 5 (.int .u8))) (.o (.o .s)) (some e5))), (6, (.fn 36 [] [(5, [.der])])), (21, (.v (.sl 89 (.pair (.sl 86 (.sl 85 (.pair (.pair (.int .u64) (.pair (.int .u64) .unit)) (.pair (.pair (.int .i64) (.pair (.int .u64) .unit)) .unit)))) .unit)) .s e21)), (22, (.v (.int .i64) .s e22)), (23, (.v (.int .i64) .s e23)), (42, (.v (.sl 86 (.sl 85 (.pair (.pair (.int .u64) (.pair (.int .u64) .unit)) (.pair (.pair (.int .i64) (.pair (.int .u64) .unit)) .unit)))) .s e42)), (43, (.v (.int .i64) .s e43)), (44, (.v (.int .i64) .s e44))]))) (fuel_cert_Put_15 ⟨y4, y5, y21, y22, y23, y42, y43, y44, y60, y61, y62⟩) ⟨y4, y5, y21, y22, y23, y42, y43, y44, y60, y61, y62⟩)) (fun R st K => by kernel_rfl) ?_
  intro R K st r h
  obtain ⟨y4, hy4, h⟩ := mV_inv h
  obtain ⟨y5, hy5, h⟩ := mP_inv h
  obtain ⟨hy6, h⟩ := mFn_inv h
  obtain ⟨y21, hy21, h⟩ := mV_inv h
  obtain ⟨y22, hy22, h⟩ := mV_inv h
  obtain ⟨y23, hy23, h⟩ := mV_inv h
  obtain ⟨y42, hy42, h⟩ := mV_inv h
  obtain ⟨y43, hy43, h⟩ := mV_inv h
  obtain ⟨y44, hy44, h⟩ := mV_inv h
  obtain ⟨y60, hy60, h⟩ := mV_inv h
  obtain ⟨y61, hy61, h⟩ := mV_inv h
  obtain ⟨y62, hy62, h⟩ := mV_inv h
  exact ⟨⟨y4, y5, y21, y22, y23, y42, y43, y44, y60, y61, y62⟩, only_of_list (ofList_cons hy4 (ofList_cons hy5 (ofList_cons hy6 (ofList_cons hy21 (ofList_cons hy22 (ofList_cons hy23 (ofList_cons hy42 (ofList_cons hy43 (ofList_cons hy44 (ofList_cons hy60 (ofList_cons hy61 (ofList_cons hy62 rfl)))))))))))), h⟩
theorem step_cert_Put_10 (R : Type) (K : Ex → St → Option R) (rec : St → Option R) (x : X_cert_Put_10) : evC env_cert_Put lp_cert_Put inl_cert_Put c_cert_Put_10 (S_cert_Put_10 x) (fun e st => match e with | .normal => coerce [(4, false), (5, false), (6, false), (21, false), (22, false), (23, false), (42, false), (43, false), (44, false)] st rec | e => coerce (out_cert_Put_10 e) st (K e)) = B_cert_Put_10 (fun e2 e3 => K .ret (St.ofList [(2, (.v (.sl 5 (.int .u8)) (.o .s) e2)), (3, (.v (.int .i64) .s e3))])) (fun e4 e5 e21 e22 e23 => K (.exit 2) (St.ofList [(4, (.v .bool .s e4)), (5, (.v (.ptr 22 (.sl 5 (.int .u8))) (.o (.o .s)) (some e5))), (6, (.fn 36 [] [(5, [.der])])), (21, (.v (.sl 89 (.pair (.sl 86 (.sl 85 (.pair (.pair (.int .u64) (.pair (.int .u64) .unit)) (.pair (.pair (.int .i64) (.pair (.int .u64) .unit)) .unit)))) .unit)) .s e21)), (22, (.v (.int .i64) .s e22)), (23, (.v (.int .i64) .s e23))])) (fun x => rec (S_cert_Put_10 x)) x := by kernel_rfl
theorem ok_cert_Put_10 : LoopOk env_cert_Put lp_cert_Put inl_cert_Put c_cert_Put_10 := by
  refine loopOk_of (hd := [(4, false), (5, false), (6, false), (21, false), (22, false), (23, false), (42, false), (43, false), (44, false)]) (out := out_cert_Put_10) (S := S_cert_Put_10) (fun _ K => B_cert_Put_10 (fun e2 e3 => K .ret (St.ofList [(2, (.v (.sl 5 (.int .u8)) (.o .s) e2)), (3, (.v (.int .i64) .s e3))])) (fun e4 e5 e21 e22 e23 => K (.exit 2) (St.ofList [(4, (.v .bool .s e4)), (5, (.v (.ptr 22 (.sl 5 (.int .u8))) (.o (.o .s)) (some e5))), (6, (.fn 36 [] [(5, [.der])])), (21, (.v (.sl 89 (.pair (.sl 86 (.sl 85 (.pair (.pair (.int .u64) (.pair (.int .u64) .unit)) (.pair (.pair (.int .i64) (.pair (.int .u64) .unit)) .unit)))) .unit)) .s e21)), (22, (.v (.int .i64) .s e22)), (23, (.v (.int .i64) .s e23))]))) fuel_cert_Put_10 10 step_cert_Put_10 (by kernel_rfl) (fun R K => fun st => mV .bool .s (st 4) fun y4 => mP 22 (.sl 5 (.int .u8)) (.o (.o .s)) (st 5) fun y5 => mFn 36 [] [(5, [.der])] (st 6) (mV (.sl 89 (.pair (.sl 86 (.sl 85 (.pair (.pair (.int .u64) (.pair (.int .u64) .unit)) (.pair (.pair (.int .i64) (.pair (.int .u64) .unit)) .unit)))) .unit)) .s (st 21) fun y21 => mV (.int .i64) .s (st 22) fun y22 => mV (.int .i64) .s (st 23) fun y23 => mV (.sl 86 (.sl 85 (.pair (.pair (.int .u64) (.pair (.int .u64) .unit)) (.pair (.pair (.int .i64) (.pair (.int .u64) .unit)) .unit)))) .s (st 42) fun y42 => mV (.int .i64) .s (st 43) fun y43 => mV (.int .i64) .s (st 44) fun y44 => loopN (B_cert_Put_10 (fun e2 e3 => K .ret (St.ofList [(2, (.v (.sl 5 (.int .u8)) (.o .s) e2)), (3, (.v (.int .i64) .s e3))])) (fun e4 e5 e21 e22 e23 => K (.exit 2) (St.ofList [(4, (.v .bool .s e4)), (5, (.v (.ptr 22 (.sl 5 (.int .u8))) (.o (.o .s)) (some e5))), (6, (.fn 36 [] [(5, [.der])])), (21, (.v (.sl 89 (.pair (.sl 86 (.sl 85 (.pair (.pair (.int .u64) (.pair (.int .u64) .unit)) (.pair (.pair (.int .i64) (.pair (.int .u64) .unit)) .unit)))) .unit)) .s e21)), (22, (.v (.int .i64) .s e22)), (23, (.v (.int .i64) .s e23))]))) (fuel_cert_Put_10 ⟨y4, y5, y21, y22, y23, y42, y43, y44⟩) ⟨y4, y5, y21, y22, y23, y42, y43, y44⟩)) (fun R st K => by kernel_rfl) ?_
  intro R K st r h
  obtain ⟨y4, hy4, h⟩ := mV_inv h
  obtain ⟨y5, hy5, h⟩ := mP_inv h
  obtain ⟨hy6, h⟩ := mFn_inv h
  obtain ⟨y21, hy21, h⟩ := mV_inv h
  obtain ⟨y22, hy22, h⟩ := mV_inv h
  obtain ⟨y23, hy23, h⟩ := mV_inv h
  obtain ⟨y42, hy42, h⟩ := mV_inv h
  obtain ⟨y43, hy43, h⟩ := mV_inv h
  obtain ⟨y44, hy44, h⟩ := mV_inv h
  exact ⟨⟨y4, y5, y21, y22, y23, y42, y43, y44⟩, only_of_list (ofList_cons hy4 (ofList_cons hy5 (ofList_cons hy6 (ofList_cons hy21 (ofList_cons hy22 (ofList_cons hy23 (ofList_cons hy42 (ofList_cons hy43 (ofList_cons hy44 rfl))))))))), h⟩
theorem step_cert_Put_5 (R : Type) (K : Ex → St → Option R) (rec : St → Option R) (x : X_cert_Put_5) : evC env_cert_Put lp_cert_Put inl_cert_Put c_cert_Put_5 (S_cert_Put_5 x) (fun e st => match e with | .normal => coerce [(4, false), (5, false), (6, false), (21, false), (22, false), (23, false)] st rec | e => coerce (out_cert_Put_5 e) st (K e)) = B_cert_Put_5 (fun e2 e3 => K .ret (St.ofList [(2, (.v (.sl 5 (.int .u8)) (.o .s) e2)), (3, (.v (.int .i64) .s e3))])) (fun e4 e5 => K (.exit 0) (St.ofList [(4, (.v .bool .s e4)), (5, (.v (.ptr 22 (.sl 5 (.int .u8))) (.o (.o .s)) (some e5)))])) (fun x => rec (S_cert_Put_5 x)) x := by kernel_rfl
theorem ok_cert_Put_5 : LoopOk env_cert_Put lp_cert_Put inl_cert_Put c_cert_Put_5 := by
  refine loopOk_of (hd := [(4, false), (5, false), (6, false), (21, false), (22, false), (23, false)]) (out := out_cert_Put_5) (S := S_cert_Put_5) (fun _ K => B_cert_Put_5 (fun e2 e3 => K .ret (St.ofList [(2, (.v (.sl 5 (.int .u8)) (.o .s) e2)), (3, (.v (.int .i64) .s e3))])) (fun e4 e5 => K (.exit 0) (St.ofList [(4, (.v .bool .s e4)), (5, (.v (.ptr 22 (.sl 5 (.int .u8))) (.o (.o .s)) (some e5)))]))) fuel_cert_Put_5 5 step_cert_Put_5 (by kernel_rfl) (fun R K => fun st => mV .bool .s (st 4) fun y4 => mP 22 (.sl 5 (.int .u8)) (.o (.o .s)) (st 5) fun y5 => mFn 36 [] [(5, [.der])] (st 6) (mV (.sl 89 (.pair (.sl 86 (.sl 85 (.pair (.pair (.int .u64) (.pair (.int .u64) .unit)) (.pair (.pair (.int .i64) (.pair (.int .u64) .unit)) .unit)))) .unit)) .s (st 21) fun y21 => mV (.int .i64) .s (st 22) fun y22 => mV (.int .i64) .s (st 23) fun y23 => loopN (B_cert_Put_5 (fun e2 e3 => K .ret (St.ofList [(2, (.v (.sl 5 (.int .u8)) (.o .s) e2)), (3, (.v (.int .i64) .s e3))])) (fun e4 e5 => K (.exit 0) (St.ofList [(4, (.v .bool .s e4)), (5, (.v (.ptr 22 (.sl 5 (.int .u8))) (.o (.o .s)) (some e5)))]))) (fuel_cert_Put_5 ⟨y4, y5, y21, y22, y23⟩) ⟨y4, y5, y21, y22, y23⟩)) (fun R st K => by kernel_rfl) ?_
  intro R K st r h
  obtain ⟨y4, hy4, h⟩ := mV_inv h
  obtain ⟨y5, hy5, h⟩ := mP_inv h
  obtain ⟨hy6, h⟩ := mFn_inv h
  obtain ⟨y21, hy21, h⟩ := mV_inv h
  obtain ⟨y22, hy22, h⟩ := mV_inv h
  obtain ⟨y23, hy23, h⟩ := mV_inv h
  exact ⟨⟨y4, y5, y21, y22, y23⟩, only_of_list (ofList_cons hy4 (ofList_cons hy5 (ofList_cons hy6 (ofList_cons hy21 (ofList_cons hy22 (ofList_cons hy23 rfl)))))), h⟩
theorem loops_cert_Put : LoopsOk env_cert_Put lp_cert_Put inl_cert_Put (body Try.f16.body) := by
  refine loopsOk_of (fun c hc => ?_) (fun c hc => ?_)
  · rw [show loopsL (body Try.f16.body) = [c_cert_Put_5, c_cert_Put_10, c_cert_Put_15] by kernel_rfl] at hc
    simp only [List.mem_cons, List.not_mem_nil, or_false] at hc
    rcases hc with rfl | rfl | rfl
    · exact ok_cert_Put_5
    · exact ok_cert_Put_10
    · exact ok_cert_Put_15
  · rw [show joinsL env_cert_Put (body Try.f16.body) = [] by kernel_rfl] at hc; cases hc
noncomputable def p_cert_Put {R : Type} (a0 : List ((List (List (((Int) × (Int) × Unit) × ((Int) × (Int) × Unit) × Unit))) × Unit)) (K : (List (Int)) → Int → Option R) : Option R :=
  let v1 := ((List.length a0 : Nat) : Int)
  let v2 := decide (v1 > (64 : Int))
  let v3 := ((List.length a0 : Nat) : Int)
  let v4 := IntKind.u64.wrap v3
  p_leb_PutU ([] : List (Int)) v4 fun r5 =>
  let v6 := ((List.length a0 : Nat) : Int)
  loopN (B_cert_Put_5 (fun w7 w8 =>
  K w7 w8) (fun w9 w10 =>
  cond w9
  (K ([] : List (Int)) (4 : Int))
  (let v11 := ((List.length w10 : Nat) : Int)
  let v12 := decide (v11 > (65536 : Int))
  cond v12
  (K ([] : List (Int)) (4 : Int))
  (K w10 (0 : Int))))) (fuel_cert_Put_5 ⟨v2, r5, a0, v6, (0 : Int)⟩) ⟨v2, r5, a0, v6, (0 : Int)⟩
noncomputable def cs_cert_Put : CSpec := { ins := [(.val (.sl 89 (.pair (.sl 86 (.sl 85 (.pair (.pair (.int .u64) (.pair (.int .u64) .unit)) (.pair (.pair (.int .i64) (.pair (.int .u64) .unit)) .unit)))) .unit)) .s)], outs := [((.sl 5 (.int .u8)), (.o .s)), ((.int .i64), .s)], fn := fun (d : (List ((List (List (((Int) × (Int) × Unit) × ((Int) × (Int) × Unit) × Unit))) × Unit)) × Unit) K _ => p_cert_Put d.1 (fun r0 r1 => K ((r0, r1, ()) : (List (Int)) × Int × Unit) ((()) : Unit)) }
theorem h_cert_Put : Holds Try.prog 16 cs_cert_Put := by
  refine holds_of (env := env_cert_Put) (inl := inl_cert_Put) (fn := Try.f16) (code := body Try.f16.body) (rs := [(2, none), (3, none)]) (lp := lp_cert_Put) mixed ⟨envTyOk.ty, envTyOk.eq⟩ gamOk_cert_Put inlOk_cert_Put Try.func16 (by kernel_rfl) (by kernel_rfl) (by kernel_rfl) (by kernel_rfl) (by kernel_rfl) loops_cert_Put (by kernel_rfl) ?_
  intro d R K Kp res h
  have : evC env_cert_Put lp_cert_Put inl_cert_Put (body Try.f16.body) (St.start cs_cert_Put.ins d) (retK env_cert_Put cs_cert_Put.ins cs_cert_Put.outs [(2, none), (3, none)] cs_cert_Put.pan K Kp) = cs_cert_Put.fn d K Kp := by kernel_rfl
  rw [this]; exact h
-- f83 trammel/leb.most
noncomputable def env_leb_most : Env := { ty := envTy, eq := envEq, gam := noG, n := Try.f83.ntmps }
noncomputable def p_leb_most {R : Type} (a0 : Int) (K : Int → Option R) : Option R :=
  let v1 := IntKind.i64.wrap (a0 + (6 : Int))
  cond ((7 : Int) != 0)
  (let v2 := IntKind.i64.wrap (Int.tdiv v1 (7 : Int))
  K v2) none
noncomputable def cs_leb_most : CSpec := { ins := [(.val (.int .i64) .s)], outs := [((.int .i64), .s)], fn := fun (d : Int × Unit) K _ => p_leb_most d.1 (fun r0 => K ((r0, ()) : Int × Unit) ((()) : Unit)) }
theorem h_leb_most : Holds Try.prog 83 cs_leb_most := by
  refine holds_of (env := env_leb_most) (inl := inl0) (fn := Try.f83) (code := body Try.f83.body) (rs := [(2, none)]) (lp := lp0) mixed ⟨envTyOk.ty, envTyOk.eq⟩ (fun _ _ _ h => by cases h) inl0_ok Try.func83 (by kernel_rfl) (by kernel_rfl) (by kernel_rfl) (by kernel_rfl) (by kernel_rfl) (loopsOk_none (by kernel_rfl) (by kernel_rfl)) (by kernel_rfl) ?_
  intro d R K Kp res h
  have : evC env_leb_most lp0 inl0 (body Try.f83.body) (St.start cs_leb_most.ins d) (retK env_leb_most cs_leb_most.ins cs_leb_most.outs [(2, none)] cs_leb_most.pan K Kp) = cs_leb_most.fn d K Kp := by kernel_rfl
  rw [this]; exact h
-- f74 trammel/leb.raw
noncomputable def gam_leb_raw : FuncId → List FuncId → Option CSpec
  | 83, [] => some cs_leb_most
  | _, _ => none
noncomputable def env_leb_raw : Env := { ty := envTy, eq := envEq, gam := gam_leb_raw, n := Try.f74.ntmps }
theorem gamOk_leb_raw : EnvFn Try.prog env_leb_raw := by
  intro f gs c h
  unfold env_leb_raw gam_leb_raw at h
  simp only at h
  split at h <;> first | (cases h; done) | (cases h; exact h_leb_most)
structure X_leb_raw_5 where
  f1 : Int
  f8 : Int
  f17 : List (Int)
  f18 : Int
  f19 : Int

noncomputable def B_leb_raw_5 {R : Type} (k_ret : Int → Int → Int → Int → Option R) (k_exit_0 : Option R) (rec : X_leb_raw_5 → Option R) (x : X_leb_raw_5) : Option R :=
  let v1 := decide (x.f19 < x.f18)
  cond v1
  (cond (inB x.f19 (List.length x.f17))
  (let v2 := List.getD x.f17 x.f19.toNat (0 : Int)
  let v3 := IntKind.u8.wrap ((BitVec.ofInt IntKind.u8.bits v2 &&& BitVec.ofInt IntKind.u8.bits (127 : Int)).toNat)
  let v4 := IntKind.u64.wrap v3
  let v5 := IntKind.i64.wrap ((7 : Int) * x.f19)
  let v6 := IntKind.u64.wrap v5
  cond (decide (0 ≤ v6))
  (let v7 := shlI .u64 v4 v6
  let v8 := IntKind.u64.wrap ((BitVec.ofInt IntKind.u64.bits x.f8 ||| BitVec.ofInt IntKind.u64.bits v7).toNat)
  let v9 := decide (v2 < (128 : Int))
  cond v9
  (let v10 := IntKind.i64.wrap (x.f19 + (1 : Int))
  k_ret v8 v2 v10 (0 : Int))
  (let v11 := IntKind.i64.wrap (x.f19 + (1 : Int))
  p_leb_most x.f1 fun r12 =>
  let v13 := v11 == r12
  cond v13
  (k_ret (0 : Int) (0 : Int) (0 : Int) (2 : Int))
  (let v14 := IntKind.i64.wrap (x.f19 + (1 : Int))
  rec ⟨x.f1, v8, x.f17, x.f18, v14⟩))) none) none)
  (k_exit_0)
noncomputable def S_leb_raw_5 (x : X_leb_raw_5) : St := St.ofList [(1, (.v (.int .i64) .s x.f1)), (8, (.v (.int .u64) .s x.f8)), (17, (.v (.sl 5 (.int .u8)) .s x.f17)), (18, (.v (.int .i64) .s x.f18)), (19, (.v (.int .i64) .s x.f19))]
def out_leb_raw_5 : Ex → List (Nat × Bool) | .ret => [(4, false), (5, false), (6, false), (7, false)] | .exit 0 => [] | _ => []
noncomputable def fuel_leb_raw_5 (x : X_leb_raw_5) : Nat := fuel64
noncomputable def c_leb_raw_5 : Code := match loopAt 5 (body Try.f74.body) with | some c => c | none => .skip
noncomputable def lp_leb_raw : Loops := fun z i R st K => match z, i with
  | false, 5 => coerce [(1, false), (8, false), (17, false), (18, false), (19, false)] st (fun st => mV (.int .i64) .s (st 1) fun y1 => mV (.int .u64) .s (st 8) fun y8 => mV (.sl 5 (.int .u8)) .s (st 17) fun y17 => mV (.int .i64) .s (st 18) fun y18 => mV (.int .i64) .s (st 19) fun y19 => loopN (B_leb_raw_5 (fun e4 e5 e6 e7 => K .ret (St.ofList [(4, (.v (.int .u64) .s e4)), (5, (.v (.int .u8) .s e5)), (6, (.v (.int .i64) .s e6)), (7, (.v (.int .i64) .s e7))])) (K (.exit 0) (St.ofList []))) (fuel_leb_raw_5 ⟨y1, y8, y17, y18, y19⟩) ⟨y1, y8, y17, y18, y19⟩)
  | _, _ => none
theorem step_leb_raw_5 (R : Type) (K : Ex → St → Option R) (rec : St → Option R) (x : X_leb_raw_5) : evC env_leb_raw lp_leb_raw inl0 c_leb_raw_5 (S_leb_raw_5 x) (fun e st => match e with | .normal => coerce [(1, false), (8, false), (17, false), (18, false), (19, false)] st rec | e => coerce (out_leb_raw_5 e) st (K e)) = B_leb_raw_5 (fun e4 e5 e6 e7 => K .ret (St.ofList [(4, (.v (.int .u64) .s e4)), (5, (.v (.int .u8) .s e5)), (6, (.v (.int .i64) .s e6)), (7, (.v (.int .i64) .s e7))])) (K (.exit 0) (St.ofList [])) (fun x => rec (S_leb_raw_5 x)) x := by kernel_rfl
theorem ok_leb_raw_5 : LoopOk env_leb_raw lp_leb_raw inl0 c_leb_raw_5 := by
  refine loopOk_of (hd := [(1, false), (8, false), (17, false), (18, false), (19, false)]) (out := out_leb_raw_5) (S := S_leb_raw_5) (fun _ K => B_leb_raw_5 (fun e4 e5 e6 e7 => K .ret (St.ofList [(4, (.v (.int .u64) .s e4)), (5, (.v (.int .u8) .s e5)), (6, (.v (.int .i64) .s e6)), (7, (.v (.int .i64) .s e7))])) (K (.exit 0) (St.ofList []))) fuel_leb_raw_5 5 step_leb_raw_5 (by kernel_rfl) (fun R K => fun st => mV (.int .i64) .s (st 1) fun y1 => mV (.int .u64) .s (st 8) fun y8 => mV (.sl 5 (.int .u8)) .s (st 17) fun y17 => mV (.int .i64) .s (st 18) fun y18 => mV (.int .i64) .s (st 19) fun y19 => loopN (B_leb_raw_5 (fun e4 e5 e6 e7 => K .ret (St.ofList [(4, (.v (.int .u64) .s e4)), (5, (.v (.int .u8) .s e5)), (6, (.v (.int .i64) .s e6)), (7, (.v (.int .i64) .s e7))])) (K (.exit 0) (St.ofList []))) (fuel_leb_raw_5 ⟨y1, y8, y17, y18, y19⟩) ⟨y1, y8, y17, y18, y19⟩) (fun R st K => by kernel_rfl) ?_
  intro R K st r h
  obtain ⟨y1, hy1, h⟩ := mV_inv h
  obtain ⟨y8, hy8, h⟩ := mV_inv h
  obtain ⟨y17, hy17, h⟩ := mV_inv h
  obtain ⟨y18, hy18, h⟩ := mV_inv h
  obtain ⟨y19, hy19, h⟩ := mV_inv h
  exact ⟨⟨y1, y8, y17, y18, y19⟩, only_of_list (ofList_cons hy1 (ofList_cons hy8 (ofList_cons hy17 (ofList_cons hy18 (ofList_cons hy19 rfl))))), h⟩
theorem loops_leb_raw : LoopsOk env_leb_raw lp_leb_raw inl0 (body Try.f74.body) := by
  refine loopsOk_of (fun c hc => ?_) (fun c hc => ?_)
  · rw [show loopsL (body Try.f74.body) = [c_leb_raw_5] by kernel_rfl] at hc
    simp only [List.mem_cons, List.not_mem_nil, or_false] at hc
    rcases hc with rfl
    · exact ok_leb_raw_5
  · rw [show joinsL env_leb_raw (body Try.f74.body) = [] by kernel_rfl] at hc; cases hc
noncomputable def p_leb_raw {R : Type} (a0 : List (Int)) (a1 : Int) (K : Int → Int → Int → Int → Option R) : Option R :=
  let v1 := decide (a1 < (1 : Int))
  cond v1
  (K (0 : Int) (0 : Int) (0 : Int) (5 : Int))
  (let v2 := decide (a1 > (64 : Int))
  cond v2
  (K (0 : Int) (0 : Int) (0 : Int) (5 : Int))
  (let v3 := ((List.length a0 : Nat) : Int)
  loopN (B_leb_raw_5 (fun w4 w5 w6 w7 =>
  K w4 w5 w6 w7) (K (0 : Int) (0 : Int) (0 : Int) (1 : Int))) (fuel_leb_raw_5 ⟨a1, (0 : Int), a0, v3, (0 : Int)⟩) ⟨a1, (0 : Int), a0, v3, (0 : Int)⟩))
noncomputable def cs_leb_raw : CSpec := { ins := [(.val (.sl 5 (.int .u8)) .s), (.val (.int .i64) .s)], outs := [((.int .u64), .s), ((.int .u8), .s), ((.int .i64), .s), ((.int .i64), .s)], fn := fun (d : (List (Int)) × Int × Unit) K _ => p_leb_raw d.1 d.2.1 (fun r0 r1 r2 r3 => K ((r0, r1, r2, r3, ()) : Int × Int × Int × Int × Unit) ((()) : Unit)) }
theorem h_leb_raw : Holds Try.prog 74 cs_leb_raw := by
  refine holds_of (env := env_leb_raw) (inl := inl0) (fn := Try.f74) (code := body Try.f74.body) (rs := [(4, none), (5, none), (6, none), (7, none)]) (lp := lp_leb_raw) mixed ⟨envTyOk.ty, envTyOk.eq⟩ gamOk_leb_raw inl0_ok Try.func74 (by kernel_rfl) (by kernel_rfl) (by kernel_rfl) (by kernel_rfl) (by kernel_rfl) loops_leb_raw (by kernel_rfl) ?_
  intro d R K Kp res h
  have : evC env_leb_raw lp_leb_raw inl0 (body Try.f74.body) (St.start cs_leb_raw.ins d) (retK env_leb_raw cs_leb_raw.ins cs_leb_raw.outs [(4, none), (5, none), (6, none), (7, none)] cs_leb_raw.pan K Kp) = cs_leb_raw.fn d K Kp := by kernel_rfl
  rw [this]; exact h
-- f34 trammel/leb.U
noncomputable def gam_leb_U : FuncId → List FuncId → Option CSpec
  | 74, [] => some cs_leb_raw
  | _, _ => none
noncomputable def env_leb_U : Env := { ty := envTy, eq := envEq, gam := gam_leb_U, n := Try.f34.ntmps }
theorem gamOk_leb_U : EnvFn Try.prog env_leb_U := by
  intro f gs c h
  unfold env_leb_U gam_leb_U at h
  simp only at h
  split at h <;> first | (cases h; done) | (cases h; exact h_leb_raw)
noncomputable def p_leb_U {R : Type} (a0 : List (Int)) (a1 : Int) (K : Int → Int → Int → Option R) : Option R :=
  p_leb_raw a0 a1 fun r1 r2 r3 r4 =>
  let v5 := r4 != (0 : Int)
  cond v5
  (K (0 : Int) (0 : Int) r4)
  (let v6 := IntKind.i64.wrap (r3 - (1 : Int))
  let v7 := IntKind.i64.wrap ((7 : Int) * v6)
  let v8 := IntKind.i64.wrap (a1 - v7)
  let v9 := decide (v8 < (7 : Int))
  cond v9
  (let v10 := IntKind.u64.wrap v8
  cond (decide (0 ≤ v10))
  (let v11 := shrI .u8 r2 v10
  let v12 := v11 != (0 : Int)
  cond v12
  (K (0 : Int) (0 : Int) (2 : Int))
  (K r1 r3 (0 : Int))) none)
  (K r1 r3 (0 : Int)))
noncomputable def cs_leb_U : CSpec := { ins := [(.val (.sl 5 (.int .u8)) .s), (.val (.int .i64) .s)], outs := [((.int .u64), .s), ((.int .i64), .s), ((.int .i64), .s)], fn := fun (d : (List (Int)) × Int × Unit) K _ => p_leb_U d.1 d.2.1 (fun r0 r1 r2 => K ((r0, r1, r2, ()) : Int × Int × Int × Unit) ((()) : Unit)) }
theorem h_leb_U : Holds Try.prog 34 cs_leb_U := by
  refine holds_of (env := env_leb_U) (inl := inl0) (fn := Try.f34) (code := body Try.f34.body) (rs := [(4, none), (5, none), (6, none)]) (lp := lp0) mixed ⟨envTyOk.ty, envTyOk.eq⟩ gamOk_leb_U inl0_ok Try.func34 (by kernel_rfl) (by kernel_rfl) (by kernel_rfl) (by kernel_rfl) (by kernel_rfl) (loopsOk_none (by kernel_rfl) (by kernel_rfl)) (by kernel_rfl) ?_
  intro d R K Kp res h
  have : evC env_leb_U lp0 inl0 (body Try.f34.body) (St.start cs_leb_U.ins d) (retK env_leb_U cs_leb_U.ins cs_leb_U.outs [(4, none), (5, none), (6, none)] cs_leb_U.pan K Kp) = cs_leb_U.fn d K Kp := by kernel_rfl
  rw [this]; exact h
-- f77 (*trammel/cert.reader).u
noncomputable def gam_cert_reader_u : FuncId → List FuncId → Option CSpec
  | 34, [] => some cs_leb_U
  | 33, [] => some cs_leb_PutU
  | _, _ => none
noncomputable def sb_cert_reader_u : Nat → Bool
  | 41 => true
  | _ => false
noncomputable def env_cert_reader_u : Env := { ty := envTy, eq := envEq, gam := gam_cert_reader_u, n := Try.f77.ntmps, sb := sb_cert_reader_u }
theorem gamOk_cert_reader_u : EnvFn Try.prog env_cert_reader_u := by
  intro f gs c h
  unfold env_cert_reader_u gam_cert_reader_u at h
  simp only at h
  split at h <;> first | (cases h; done) | (cases h; exact h_leb_U) | (cases h; exact h_leb_PutU)
noncomputable def p_cert_reader_u {R : Type} (a0 : (List (Int)) × (Int) × Unit) (K : Int → ((List (Int)) × (Int) × Unit) → Option R) : Option R :=
  let v1 := a0.2.1 != (0 : Int)
  cond v1
  (K (0 : Int) a0)
  (p_leb_U a0.1 (64 : Int) fun r2 r3 r4 =>
  let v5 := r4 == (0 : Int)
  cond v5
  (p_leb_PutU ([] : List (Int)) r2 fun r6 =>
  let v7 := ((List.length r6 : Nat) : Int)
  let v8 := v7 != r3
  cond v8
  (let v9 := (2 : Int) != (0 : Int)
  cond v9
  (K (0 : Int) (a0.1, ((2 : Int), a0.2.2)))
  (cond (inR r3 ((List.length a0.1 : Nat) : Int) (List.length a0.1))
  (let v10 := rng a0.1 r3 ((List.length a0.1 : Nat) : Int)
  K r2 (v10, a0.2)) none))
  (let v11 := r4 != (0 : Int)
  cond v11
  (K (0 : Int) (a0.1, (r4, a0.2.2)))
  (cond (inR r3 ((List.length a0.1 : Nat) : Int) (List.length a0.1))
  (let v12 := rng a0.1 r3 ((List.length a0.1 : Nat) : Int)
  K r2 (v12, a0.2)) none)))
  (let v13 := r4 != (0 : Int)
  cond v13
  (K (0 : Int) (a0.1, (r4, a0.2.2)))
  (cond (inR r3 ((List.length a0.1 : Nat) : Int) (List.length a0.1))
  (let v14 := rng a0.1 r3 ((List.length a0.1 : Nat) : Int)
  K r2 (v14, a0.2)) none)))
noncomputable def cs_cert_reader_u : CSpec := { ins := [(.ref (.pair (.sl 5 (.int .u8)) (.pair (.int .i64) .unit)) .s .s)], outs := [((.int .u64), .s)], fn := fun (d : ((List (Int)) × (Int) × Unit) × Unit) K _ => p_cert_reader_u d.1 (fun r0 b0 => K ((r0, ()) : Int × Unit) ((b0, ()) : ((List (Int)) × (Int) × Unit) × Unit)) }
theorem h_cert_reader_u : Holds Try.prog 77 cs_cert_reader_u := by
  refine holds_of (env := env_cert_reader_u) (inl := inl0) (fn := Try.f77) (code := body Try.f77.body) (rs := [(2, none)]) (lp := lp0) mixed ⟨envTyOk.ty, envTyOk.eq⟩ gamOk_cert_reader_u inl0_ok Try.func77 (by kernel_rfl) (by kernel_rfl) (by kernel_rfl) (by kernel_rfl) (by kernel_rfl) (loopsOk_none (by kernel_rfl) (by kernel_rfl)) (by kernel_rfl) ?_
  intro d R K Kp res h
  have : evC env_cert_reader_u lp0 inl0 (body Try.f77.body) (St.start cs_cert_reader_u.ins d) (retK env_cert_reader_u cs_cert_reader_u.ins cs_cert_reader_u.outs [(2, none)] cs_cert_reader_u.pan K Kp) = cs_cert_reader_u.fn d K Kp := by kernel_rfl
  rw [this]; exact h
-- f40 (*trammel/cert.reader).count
noncomputable def gam_cert_reader_count : FuncId → List FuncId → Option CSpec
  | 77, [] => some cs_cert_reader_u
  | _, _ => none
noncomputable def env_cert_reader_count : Env := { ty := envTy, eq := envEq, gam := gam_cert_reader_count, n := Try.f40.ntmps, al := [0, 6] }
theorem gamOk_cert_reader_count : EnvFn Try.prog env_cert_reader_count := by
  intro f gs c h
  unfold env_cert_reader_count gam_cert_reader_count at h
  simp only at h
  split at h <;> first | (cases h; done) | (cases h; exact h_cert_reader_u)
noncomputable def p_cert_reader_count {R : Type} (a0 : (List (Int)) × (Int) × Unit) (a1 : Int) (K : Int → ((List (Int)) × (Int) × Unit) → Option R) : Option R :=
  p_cert_reader_u a0 fun r1 b2 =>
  let v3 := b2.2.1 == (0 : Int)
  cond v3
  (let v4 := IntKind.u64.wrap a1
  let v5 := decide (r1 > v4)
  cond v5
  (let v6 := (4 : Int) != (0 : Int)
  cond v6
  (K (0 : Int) (b2.1, ((4 : Int), b2.2.2)))
  (let v7 := IntKind.i64.wrap r1
  K v7 (b2.1, ((4 : Int), b2.2.2))))
  (let v8 := b2.2.1 != (0 : Int)
  cond v8
  (K (0 : Int) b2)
  (let v9 := IntKind.i64.wrap r1
  K v9 b2)))
  (let v10 := b2.2.1 != (0 : Int)
  cond v10
  (K (0 : Int) b2)
  (let v11 := IntKind.i64.wrap r1
  K v11 b2))
noncomputable def cs_cert_reader_count : CSpec := { ins := [(.ref (.pair (.sl 5 (.int .u8)) (.pair (.int .i64) .unit)) .s .s), (.val (.int .i64) .s)], outs := [((.int .i64), .s)], fn := fun (d : ((List (Int)) × (Int) × Unit) × Int × Unit) K _ => p_cert_reader_count d.1 d.2.1 (fun r0 b0 => K ((r0, ()) : Int × Unit) ((b0, ()) : ((List (Int)) × (Int) × Unit) × Unit)) }
theorem h_cert_reader_count : Holds Try.prog 40 cs_cert_reader_count := by
  refine holds_of (env := env_cert_reader_count) (inl := inl0) (fn := Try.f40) (code := body Try.f40.body) (rs := [(4, none)]) (lp := lp0) mixed ⟨envTyOk.ty, envTyOk.eq⟩ gamOk_cert_reader_count inl0_ok Try.func40 (by kernel_rfl) (by kernel_rfl) (by kernel_rfl) (by kernel_rfl) (by kernel_rfl) (loopsOk_none (by kernel_rfl) (by kernel_rfl)) (by kernel_rfl) ?_
  intro d R K Kp res h
  have : evC env_cert_reader_count lp0 inl0 (body Try.f40.body) (St.start cs_cert_reader_count.ins d) (retK env_cert_reader_count cs_cert_reader_count.ins cs_cert_reader_count.outs [(4, none)] cs_cert_reader_count.pan K Kp) = cs_cert_reader_count.fn d K Kp := by kernel_rfl
  rw [this]; exact h
-- f41 (*trammel/cert.reader).abs
noncomputable def gam_cert_reader_abs : FuncId → List FuncId → Option CSpec
  | 77, [] => some cs_cert_reader_u
  | 37, [] => some cs_abs_Right
  | _, _ => none
noncomputable def env_cert_reader_abs : Env := { ty := envTy, eq := envEq, gam := gam_cert_reader_abs, n := Try.f41.ntmps, al := [0, 5, 9, 13, 15] }
theorem gamOk_cert_reader_abs : EnvFn Try.prog env_cert_reader_abs := by
  intro f gs c h
  unfold env_cert_reader_abs gam_cert_reader_abs at h
  simp only at h
  split at h <;> first | (cases h; done) | (cases h; exact h_cert_reader_u) | (cases h; exact h_abs_Right)
noncomputable def p_cert_reader_abs {R : Type} (a0 : (List (Int)) × (Int) × Unit) (K : (((Int) × (Int) × Unit) × ((Int) × (Int) × Unit) × Unit) → ((List (Int)) × (Int) × Unit) → Option R) : Option R :=
  p_cert_reader_u a0 fun r1 b2 =>
  p_cert_reader_u b2 fun r3 b4 =>
  p_cert_reader_u b4 fun r5 b6 =>
  p_cert_reader_u b6 fun r7 b8 =>
  let v9 := minI r5 (65 : Int)
  let v10 := IntKind.i64.wrap v9
  let v11 := b8.2.1 == (0 : Int)
  cond v11
  (p_abs_Right ((r1, (r3, ())), ((v10, (r7, ())), ())) fun r12 =>
  let v13 := !r12
  cond v13
  (K ((r1, (r3, ())), ((v10, (r7, ())), ())) (b8.1, ((2 : Int), b8.2.2)))
  (K ((r1, (r3, ())), ((v10, (r7, ())), ())) b8))
  (K ((r1, (r3, ())), ((v10, (r7, ())), ())) b8)
noncomputable def cs_cert_reader_abs : CSpec := { ins := [(.ref (.pair (.sl 5 (.int .u8)) (.pair (.int .i64) .unit)) .s .s)], outs := [((.pair (.pair (.int .u64) (.pair (.int .u64) .unit)) (.pair (.pair (.int .i64) (.pair (.int .u64) .unit)) .unit)), .s)], fn := fun (d : ((List (Int)) × (Int) × Unit) × Unit) K _ => p_cert_reader_abs d.1 (fun r0 b0 => K ((r0, ()) : (((Int) × (Int) × Unit) × ((Int) × (Int) × Unit) × Unit) × Unit) ((b0, ()) : ((List (Int)) × (Int) × Unit) × Unit)) }
theorem h_cert_reader_abs : Holds Try.prog 41 cs_cert_reader_abs := by
  refine holds_of (env := env_cert_reader_abs) (inl := inl0) (fn := Try.f41) (code := body Try.f41.body) (rs := [(2, some 85)]) (lp := lp0) mixed ⟨envTyOk.ty, envTyOk.eq⟩ gamOk_cert_reader_abs inl0_ok Try.func41 (by kernel_rfl) (by kernel_rfl) (by kernel_rfl) (by kernel_rfl) (by kernel_rfl) (loopsOk_none (by kernel_rfl) (by kernel_rfl)) (by kernel_rfl) ?_
  intro d R K Kp res h
  have : evC env_cert_reader_abs lp0 inl0 (body Try.f41.body) (St.start cs_cert_reader_abs.ins d) (retK env_cert_reader_abs cs_cert_reader_abs.ins cs_cert_reader_abs.outs [(2, some 85)] cs_cert_reader_abs.pan K Kp) = cs_cert_reader_abs.fn d K Kp := by kernel_rfl
  rw [this]; exact h
-- f19 trammel/cert.Read
noncomputable def gam_cert_Read : FuncId → List FuncId → Option CSpec
  | 40, [] => some cs_cert_reader_count
  | 41, [] => some cs_cert_reader_abs
  | _, _ => none
noncomputable def lv_cert_Read : Nat → Option (List Nat)
  | 0 => some [0]
  | 1 => some [0]
  | 2 => some []
  | 3 => some [0]
  | 4 => some [4]
  | 5 => some [4, 5]
  | 6 => some [4, 5, 6]
  | 7 => some [4, 5, 6]
  | 8 => some [4, 5, 6]
  | 9 => some [4, 5, 6, 7]
  | 10 => some [4, 5, 6, 7, 8]
  | 11 => some [4, 5, 6, 7, 8]
  | 12 => some [4, 5, 6, 7, 8]
  | 13 => some [4, 5, 6, 7, 8, 9]
  | 14 => some [4, 5, 6, 7, 8, 9, 10]
  | 15 => some [4, 5, 6, 7, 8, 9, 10]
  | 16 => some [4, 5, 6, 7, 8, 9, 10]
  | 17 => some [4, 5, 6, 7, 8, 9]
  | 18 => some [4, 5, 6, 7]
  | 19 => some [4, 5]
  | 20 => some [4, 5]
  | 21 => some [4, 5]
  | 22 => some [4]
  | 23 => some [5]
  | _ => none
noncomputable def env_cert_Read : Env := { ty := envTy, eq := envEq, gam := gam_cert_Read, n := Try.f19.ntmps, lv := lv_cert_Read, al := [23, 24, 36, 37, 50, 51] }
theorem gamOk_cert_Read : EnvFn Try.prog env_cert_Read := by
  intro f gs c h
  unfold env_cert_Read gam_cert_Read at h
  simp only at h
  split at h <;> first | (cases h; done) | (cases h; exact h_cert_reader_count) | (cases h; exact h_cert_reader_abs)
structure X_cert_Read_14 where
  f4 : (List (Int)) × (Int) × Unit
  f5 : List ((List (List (((Int) × (Int) × Unit) × ((Int) × (Int) × Unit) × Unit))) × Unit)
  f6 : Int
  f7 : (List (List (((Int) × (Int) × Unit) × ((Int) × (Int) × Unit) × Unit))) × Unit
  f8 : Int
  f9 : List (((Int) × (Int) × Unit) × ((Int) × (Int) × Unit) × Unit)
  f10 : Int

noncomputable def B_cert_Read_14 {R : Type} (k_exit_4 : ((List (Int)) × (Int) × Unit) → (List ((List (List (((Int) × (Int) × Unit) × ((Int) × (Int) × Unit) × Unit))) × Unit)) → Int → ((List (List (((Int) × (Int) × Unit) × ((Int) × (Int) × Unit) × Unit))) × Unit) → Int → (List (((Int) × (Int) × Unit) × ((Int) × (Int) × Unit) × Unit)) → Option R) (rec : X_cert_Read_14 → Option R) (x : X_cert_Read_14) : Option R :=
  let v1 := decide (x.f10 > (0 : Int))
  cond v1
  (let v2 := x.f4.2.1 == (0 : Int)
  cond v2
  (p_cert_reader_abs x.f4 fun r3 b4 =>
  let v5 := List.set (List.replicate 1 (((0 : Int), ((0 : Int), ())), (((0 : Int), ((0 : Int), ())), ()))) 0 r3
  cond (decide (List.length x.f9 + List.length v5 ≤ most))
  (let v6 := x.f9 ++ v5
  let v7 := IntKind.i64.wrap (x.f10 - (1 : Int))
  rec ⟨b4, x.f5, x.f6, x.f7, x.f8, v6, v7⟩) none)
  (k_exit_4 x.f4 x.f5 x.f6 x.f7 x.f8 x.f9))
  (k_exit_4 x.f4 x.f5 x.f6 x.f7 x.f8 x.f9)
noncomputable def S_cert_Read_14 (x : X_cert_Read_14) : St := St.ofList [(4, (.v (.ptr 96 (.pair (.sl 5 (.int .u8)) (.pair (.int .i64) .unit))) (.o .s) (some x.f4))), (5, (.v (.sl 89 (.pair (.sl 86 (.sl 85 (.pair (.pair (.int .u64) (.pair (.int .u64) .unit)) (.pair (.pair (.int .i64) (.pair (.int .u64) .unit)) .unit)))) .unit)) (.o .s) x.f5)), (6, (.v (.int .i64) .s x.f6)), (7, (.v (.ptr 89 (.pair (.sl 86 (.sl 85 (.pair (.pair (.int .u64) (.pair (.int .u64) .unit)) (.pair (.pair (.int .i64) (.pair (.int .u64) .unit)) .unit)))) .unit)) (.o (.p (.o .s) .s)) (some x.f7))), (8, (.v (.int .i64) .s x.f8)), (9, (.v (.sl 85 (.pair (.pair (.int .u64) (.pair (.int .u64) .unit)) (.pair (.pair (.int .i64) (.pair (.int .u64) .unit)) .unit))) (.o .s) x.f9)), (10, (.v (.int .i64) .s x.f10))]
def out_cert_Read_14 : Ex → List (Nat × Bool) | .exit 4 => [(4, false), (5, false), (6, false), (7, false), (8, false), (9, false)] | _ => []
noncomputable def fuel_cert_Read_14 (x : X_cert_Read_14) : Nat := fuel64
noncomputable def c_cert_Read_14 : Code := match loopAt 14 (body Try.f19.body) with | some c => c | none => .skip
structure X_cert_Read_10 where
  f4 : (List (Int)) × (Int) × Unit
  f5 : List ((List (List (((Int) × (Int) × Unit) × ((Int) × (Int) × Unit) × Unit))) × Unit)
  f6 : Int
  f7 : (List (List (((Int) × (Int) × Unit) × ((Int) × (Int) × Unit) × Unit))) × Unit
  f8 : Int

noncomputable def B_cert_Read_10 {R : Type} (k_exit_2 : ((List (Int)) × (Int) × Unit) → (List ((List (List (((Int) × (Int) × Unit) × ((Int) × (Int) × Unit) × Unit))) × Unit)) → Int → ((List (List (((Int) × (Int) × Unit) × ((Int) × (Int) × Unit) × Unit))) × Unit) → Option R) (rec : X_cert_Read_10 → Option R) (x : X_cert_Read_10) : Option R :=
  let v1 := decide (x.f8 > (0 : Int))
  cond v1
  (let v2 := x.f4.2.1 == (0 : Int)
  cond v2
  (let v3 := List.replicate 0 (((0 : Int), ((0 : Int), ())), (((0 : Int), ((0 : Int), ())), ()))
  p_cert_reader_count x.f4 (64 : Int) fun r4 b5 =>
  loopN (B_cert_Read_14 (fun w6 w7 w8 w9 w10 w11 =>
  let v12 := List.set (List.replicate 1 ([] : List (((Int) × (Int) × Unit) × ((Int) × (Int) × Unit) × Unit))) 0 w11
  cond (decide (List.length w9.1 + List.length v12 ≤ most))
  (let v13 := w9.1 ++ v12
  let v14 := IntKind.i64.wrap (w10 - (1 : Int))
  rec ⟨w6, w7, w8, (v13, w9.2), v14⟩) none)) (fuel_cert_Read_14 ⟨b5, x.f5, x.f6, x.f7, x.f8, v3, r4⟩) ⟨b5, x.f5, x.f6, x.f7, x.f8, v3, r4⟩)
  (k_exit_2 x.f4 x.f5 x.f6 x.f7))
  (k_exit_2 x.f4 x.f5 x.f6 x.f7)
noncomputable def S_cert_Read_10 (x : X_cert_Read_10) : St := St.ofList [(4, (.v (.ptr 96 (.pair (.sl 5 (.int .u8)) (.pair (.int .i64) .unit))) (.o .s) (some x.f4))), (5, (.v (.sl 89 (.pair (.sl 86 (.sl 85 (.pair (.pair (.int .u64) (.pair (.int .u64) .unit)) (.pair (.pair (.int .i64) (.pair (.int .u64) .unit)) .unit)))) .unit)) (.o .s) x.f5)), (6, (.v (.int .i64) .s x.f6)), (7, (.v (.ptr 89 (.pair (.sl 86 (.sl 85 (.pair (.pair (.int .u64) (.pair (.int .u64) .unit)) (.pair (.pair (.int .i64) (.pair (.int .u64) .unit)) .unit)))) .unit)) (.o (.p (.o .s) .s)) (some x.f7))), (8, (.v (.int .i64) .s x.f8))]
def out_cert_Read_10 : Ex → List (Nat × Bool) | .exit 2 => [(4, false), (5, false), (6, false), (7, false)] | _ => []
noncomputable def fuel_cert_Read_10 (x : X_cert_Read_10) : Nat := fuel64
noncomputable def c_cert_Read_10 : Code := match loopAt 10 (body Try.f19.body) with | some c => c | none => .skip
structure X_cert_Read_6 where
  f4 : (List (Int)) × (Int) × Unit
  f5 : List ((List (List (((Int) × (Int) × Unit) × ((Int) × (Int) × Unit) × Unit))) × Unit)
  f6 : Int

noncomputable def B_cert_Read_6 {R : Type} (k_exit_0 : ((List (Int)) × (Int) × Unit) → (List ((List (List (((Int) × (Int) × Unit) × ((Int) × (Int) × Unit) × Unit))) × Unit)) → Option R) (rec : X_cert_Read_6 → Option R) (x : X_cert_Read_6) : Option R :=
  let v1 := decide (x.f6 > (0 : Int))
  cond v1
  (let v2 := x.f4.2.1 == (0 : Int)
  cond v2
  (p_cert_reader_count x.f4 (2000 : Int) fun r3 b4 =>
  loopN (B_cert_Read_10 (fun w5 w6 w7 w8 =>
  let v9 := List.set (List.replicate 1 (([] : List (List (((Int) × (Int) × Unit) × ((Int) × (Int) × Unit) × Unit))), ())) 0 w8
  cond (decide (List.length w6 + List.length v9 ≤ most))
  (let v10 := w6 ++ v9
  let v11 := IntKind.i64.wrap (w7 - (1 : Int))
  rec ⟨w5, v10, v11⟩) none)) (fuel_cert_Read_10 ⟨b4, x.f5, x.f6, (([] : List (List (((Int) × (Int) × Unit) × ((Int) × (Int) × Unit) × Unit))), ()), r3⟩) ⟨b4, x.f5, x.f6, (([] : List (List (((Int) × (Int) × Unit) × ((Int) × (Int) × Unit) × Unit))), ()), r3⟩)
  (k_exit_0 x.f4 x.f5))
  (k_exit_0 x.f4 x.f5)
noncomputable def S_cert_Read_6 (x : X_cert_Read_6) : St := St.ofList [(4, (.v (.ptr 96 (.pair (.sl 5 (.int .u8)) (.pair (.int .i64) .unit))) (.o .s) (some x.f4))), (5, (.v (.sl 89 (.pair (.sl 86 (.sl 85 (.pair (.pair (.int .u64) (.pair (.int .u64) .unit)) (.pair (.pair (.int .i64) (.pair (.int .u64) .unit)) .unit)))) .unit)) (.o .s) x.f5)), (6, (.v (.int .i64) .s x.f6))]
def out_cert_Read_6 : Ex → List (Nat × Bool) | .exit 0 => [(4, false), (5, false)] | _ => []
noncomputable def fuel_cert_Read_6 (x : X_cert_Read_6) : Nat := fuel64
noncomputable def c_cert_Read_6 : Code := match loopAt 6 (body Try.f19.body) with | some c => c | none => .skip
noncomputable def lp_cert_Read : Loops := fun z i R st K => match z, i with
  | false, 14 => coerce [(4, false), (5, false), (6, false), (7, false), (8, false), (9, false), (10, false)] st (fun st => mP 96 (.pair (.sl 5 (.int .u8)) (.pair (.int .i64) .unit)) (.o .s) (st 4) fun y4 => mV (.sl 89 (.pair (.sl 86 (.sl 85 (.pair (.pair (.int .u64) (.pair (.int .u64) .unit)) (.pair (.pair (.int .i64) (.pair (.int .u64) .unit)) .unit)))) .unit)) (.o .s) (st 5) fun y5 => mV (.int .i64) .s (st 6) fun y6 => mP 89 (.pair (.sl 86 (.sl 85 (.pair (.pair (.int .u64) (.pair (.int .u64) .unit)) (.pair (.pair (.int .i64) (.pair (.int .u64) .unit)) .unit)))) .unit) (.o (.p (.o .s) .s)) (st 7) fun y7 => mV (.int .i64) .s (st 8) fun y8 => mV (.sl 85 (.pair (.pair (.int .u64) (.pair (.int .u64) .unit)) (.pair (.pair (.int .i64) (.pair (.int .u64) .unit)) .unit))) (.o .s) (st 9) fun y9 => mV (.int .i64) .s (st 10) fun y10 => loopN (B_cert_Read_14 (fun e4 e5 e6 e7 e8 e9 => K (.exit 4) (St.ofList [(4, (.v (.ptr 96 (.pair (.sl 5 (.int .u8)) (.pair (.int .i64) .unit))) (.o .s) (some e4))), (5, (.v (.sl 89 (.pair (.sl 86 (.sl 85 (.pair (.pair (.int .u64) (.pair (.int .u64) .unit)) (.pair (.pair (.int .i64) (.pair (.int .u64) .unit)) .unit)))) .unit)) (.o .s) e5)), (6, (.v (.int .i64) .s e6)), (7, (.v (.ptr 89 (.pair (.sl 86 (.sl 85 (.pair (.pair (.int .u64) (.pair (.int .u64) .unit)) (.pair (.pair (.int .i64) (.pair (.int .u64) .unit)) .unit)))) .unit)) (.o (.p (.o .s) .s)) (some e7))), (8, (.v (.int .i64) .s e8)), (9, (.v (.sl 85 (.pair (.pair (.int .u64) (.pair (.int .u64) .unit)) (.pair (.pair (.int .i64) (.pair (.int .u64) .unit)) .unit))) (.o .s) e9))]))) (fuel_cert_Read_14 ⟨y4, y5, y6, y7, y8, y9, y10⟩) ⟨y4, y5, y6, y7, y8, y9, y10⟩)
  | false, 10 => coerce [(4, false), (5, false), (6, false), (7, false), (8, false)] st (fun st => mP 96 (.pair (.sl 5 (.int .u8)) (.pair (.int .i64) .unit)) (.o .s) (st 4) fun y4 => mV (.sl 89 (.pair (.sl 86 (.sl 85 (.pair (.pair (.int .u64) (.pair (.int .u64) .unit)) (.pair (.pair (.int .i64) (.pair (.int .u64) .unit)) .unit)))) .unit)) (.o .s) (st 5) fun y5 => mV (.int .i64) .s (st 6) fun y6 => mP 89 (.pair (.sl 86 (.sl 85 (.pair (.pair (.int .u64) (.pair (.int .u64) .unit)) (.pair (.pair (.int .i64) (.pair (.int .u64) .unit)) .unit)))) .unit) (.o (.p (.o .s) .s)) (st 7) fun y7 => mV (.int .i64) .s (st 8) fun y8 => loopN (B_cert_Read_10 (fun e4 e5 e6 e7 => K (.exit 2) (St.ofList [(4, (.v (.ptr 96 (.pair (.sl 5 (.int .u8)) (.pair (.int .i64) .unit))) (.o .s) (some e4))), (5, (.v (.sl 89 (.pair (.sl 86 (.sl 85 (.pair (.pair (.int .u64) (.pair (.int .u64) .unit)) (.pair (.pair (.int .i64) (.pair (.int .u64) .unit)) .unit)))) .unit)) (.o .s) e5)), (6, (.v (.int .i64) .s e6)), (7, (.v (.ptr 89 (.pair (.sl 86 (.sl 85 (.pair (.pair (.int .u64) (.pair (.int .u64) .unit)) (.pair (.pair (.int .i64) (.pair (.int .u64) .unit)) .unit)))) .unit)) (.o (.p (.o .s) .s)) (some e7)))]))) (fuel_cert_Read_10 ⟨y4, y5, y6, y7, y8⟩) ⟨y4, y5, y6, y7, y8⟩)
  | false, 6 => coerce [(4, false), (5, false), (6, false)] st (fun st => mP 96 (.pair (.sl 5 (.int .u8)) (.pair (.int .i64) .unit)) (.o .s) (st 4) fun y4 => mV (.sl 89 (.pair (.sl 86 (.sl 85 (.pair (.pair (.int .u64) (.pair (.int .u64) .unit)) (.pair (.pair (.int .i64) (.pair (.int .u64) .unit)) .unit)))) .unit)) (.o .s) (st 5) fun y5 => mV (.int .i64) .s (st 6) fun y6 => loopN (B_cert_Read_6 (fun e4 e5 => K (.exit 0) (St.ofList [(4, (.v (.ptr 96 (.pair (.sl 5 (.int .u8)) (.pair (.int .i64) .unit))) (.o .s) (some e4))), (5, (.v (.sl 89 (.pair (.sl 86 (.sl 85 (.pair (.pair (.int .u64) (.pair (.int .u64) .unit)) (.pair (.pair (.int .i64) (.pair (.int .u64) .unit)) .unit)))) .unit)) (.o .s) e5))]))) (fuel_cert_Read_6 ⟨y4, y5, y6⟩) ⟨y4, y5, y6⟩)
  | _, _ => none
theorem step_cert_Read_14 (R : Type) (K : Ex → St → Option R) (rec : St → Option R) (x : X_cert_Read_14) : evC env_cert_Read lp_cert_Read inl0 c_cert_Read_14 (S_cert_Read_14 x) (fun e st => match e with | .normal => coerce [(4, false), (5, false), (6, false), (7, false), (8, false), (9, false), (10, false)] st rec | e => coerce (out_cert_Read_14 e) st (K e)) = B_cert_Read_14 (fun e4 e5 e6 e7 e8 e9 => K (.exit 4) (St.ofList [(4, (.v (.ptr 96 (.pair (.sl 5 (.int .u8)) (.pair (.int .i64) .unit))) (.o .s) (some e4))), (5, (.v (.sl 89 (.pair (.sl 86 (.sl 85 (.pair (.pair (.int .u64) (.pair (.int .u64) .unit)) (.pair (.pair (.int .i64) (.pair (.int .u64) .unit)) .unit)))) .unit)) (.o .s) e5)), (6, (.v (.int .i64) .s e6)), (7, (.v (.ptr 89 (.pair (.sl 86 (.sl 85 (.pair (.pair (.int .u64) (.pair (.int .u64) .unit)) (.pair (.pair (.int .i64) (.pair (.int .u64) .unit)) .unit)))) .unit)) (.o (.p (.o .s) .s)) (some e7))), (8, (.v (.int .i64) .s e8)), (9, (.v (.sl 85 (.pair (.pair (.int .u64) (.pair (.int .u64) .unit)) (.pair (.pair (.int .i64) (.pair (.int .u64) .unit)) .unit))) (.o .s) e9))])) (fun x => rec (S_cert_Read_14 x)) x := by kernel_rfl
theorem ok_cert_Read_14 : LoopOk env_cert_Read lp_cert_Read inl0 c_cert_Read_14 := by
  refine loopOk_of (hd := [(4, false), (5, false), (6, false), (7, false), (8, false), (9, false), (10, false)]) (out := out_cert_Read_14) (S := S_cert_Read_14) (fun _ K => B_cert_Read_14 (fun e4 e5 e6 e7 e8 e9 => K (.exit 4) (St.ofList [(4, (.v (.ptr 96 (.pair (.sl 5 (.int .u8)) (.pair (.int .i64) .unit))) (.o .s) (some e4))), (5, (.v (.sl 89 (.pair (.sl 86 (.sl 85 (.pair (.pair (.int .u64) (.pair (.int .u64) .unit)) (.pair (.pair (.int .i64) (.pair (.int .u64) .unit)) .unit)))) .unit)) (.o .s) e5)), (6, (.v (.int .i64) .s e6)), (7, (.v (.ptr 89 (.pair (.sl 86 (.sl 85 (.pair (.pair (.int .u64) (.pair (.int .u64) .unit)) (.pair (.pair (.int .i64) (.pair (.int .u64) .unit)) .unit)))) .unit)) (.o (.p (.o .s) .s)) (some e7))), (8, (.v (.int .i64) .s e8)), (9, (.v (.sl 85 (.pair (.pair (.int .u64) (.pair (.int .u64) .unit)) (.pair (.pair (.int .i64) (.pair (.int .u64) .unit)) .unit))) (.o .s) e9))]))) fuel_cert_Read_14 14 step_cert_Read_14 (by kernel_rfl) (fun R K => fun st => mP 96 (.pair (.sl 5 (.int .u8)) (.pair (.int .i64) .unit)) (.o .s) (st 4) fun y4 => mV (.sl 89 (.pair (.sl 86 (.sl 85 (.pair (.pair (.int .u64) (.pair (.int .u64) .unit)) (.pair (.pair (.int .i64) (.pair (.int .u64) .unit)) .unit)))) .unit)) (.o .s) (st 5) fun y5 => mV (.int .i64) .s (st 6) fun y6 => mP 89 (.pair (.sl 86 (.sl 85 (.pair (.pair (.int .u64) (.pair (.int .u64) .unit)) (.pair (.pair (.int .i64) (.pair (.int .u64) .unit)) .unit)))) .unit) (.o (.p (.o .s) .s)) (st 7) fun y7 => mV (.int .i64) .s (st 8) fun y8 => mV (.sl 85 (.pair (.pair (.int .u64) (.pair (.int .u64) .unit)) (.pair (.pair (.int .i64) (.pair (.int .u64) .unit)) .unit))) (.o .s) (st 9) fun y9 => mV (.int .i64) .s (st 10) fun y10 => loopN (B_cert_Read_14 (fun e4 e5 e6 e7 e8 e9 => K (.exit 4) (St.ofList [(4, (.v (.ptr 96 (.pair (.sl 5 (.int .u8)) (.pair (.int .i64) .unit))) (.o .s) (some e4))), (5, (.v (.sl 89 (.pair (.sl 86 (.sl 85 (.pair (.pair (.int .u64) (.pair (.int .u64) .unit)) (.pair (.pair (.int .i64) (.pair (.int .u64) .unit)) .unit)))) .unit)) (.o .s) e5)), (6, (.v (.int .i64) .s e6)), (7, (.v (.ptr 89 (.pair (.sl 86 (.sl 85 (.pair (.pair (.int .u64) (.pair (.int .u64) .unit)) (.pair (.pair (.int .i64) (.pair (.int .u64) .unit)) .unit)))) .unit)) (.o (.p (.o .s) .s)) (some e7))), (8, (.v (.int .i64) .s e8)), (9, (.v (.sl 85 (.pair (.pair (.int .u64) (.pair (.int .u64) .unit)) (.pair (.pair (.int .i64) (.pair (.int .u64) .unit)) .unit))) (.o .s) e9))]))) (fuel_cert_Read_14 ⟨y4, y5, y6, y7, y8, y9, y10⟩) ⟨y4, y5, y6, y7, y8, y9, y10⟩) (fun R st K => by kernel_rfl) ?_
  intro R K st r h
  obtain ⟨y4, hy4, h⟩ := mP_inv h
  obtain ⟨y5, hy5, h⟩ := mV_inv h
  obtain ⟨y6, hy6, h⟩ := mV_inv h
  obtain ⟨y7, hy7, h⟩ := mP_inv h
  obtain ⟨y8, hy8, h⟩ := mV_inv h
  obtain ⟨y9, hy9, h⟩ := mV_inv h
  obtain ⟨y10, hy10, h⟩ := mV_inv h
  exact ⟨⟨y4, y5, y6, y7, y8, y9, y10⟩, only_of_list (ofList_cons hy4 (ofList_cons hy5 (ofList_cons hy6 (ofList_cons hy7 (ofList_cons hy8 (ofList_cons hy9 (ofList_cons hy10 rfl))))))), h⟩
theorem step_cert_Read_10 (R : Type) (K : Ex → St → Option R) (rec : St → Option R) (x : X_cert_Read_10) : evC env_cert_Read lp_cert_Read inl0 c_cert_Read_10 (S_cert_Read_10 x) (fun e st => match e with | .normal => coerce [(4, false), (5, false), (6, false), (7, false), (8, false)] st rec | e => coerce (out_cert_Read_10 e) st (K e)) = B_cert_Read_10 (fun e4 e5 e6 e7 => K (.exit 2) (St.ofList [(4, (.v (.ptr 96 (.pair (.sl 5 (.int .u8)) (.pair (.int .i64) .unit))) (.o .s) (some e4))), (5, (.v (.sl 89 (.pair (.sl 86 (.sl 85 (.pair (.pair (.int .u64) (.pair (.int .u64) .unit)) (.pair (.pair (.int .i64) (.pair (.int .u64) .unit)) .unit)))) .unit)) (.o .s) e5)), (6, (.v (.int .i64) .s e6)), (7, (.v (.ptr 89 (.pair (.sl 86 (.sl 85 (.pair (.pair (.int .u64) (.pair (.int .u64) .unit)) (.pair (.pair (.int .i64) (.pair (.int .u64) .unit)) .unit)))) .unit)) (.o (.p (.o .s) .s)) (some e7)))])) (fun x => rec (S_cert_Read_10 x)) x := by kernel_rfl
theorem ok_cert_Read_10 : LoopOk env_cert_Read lp_cert_Read inl0 c_cert_Read_10 := by
  refine loopOk_of (hd := [(4, false), (5, false), (6, false), (7, false), (8, false)]) (out := out_cert_Read_10) (S := S_cert_Read_10) (fun _ K => B_cert_Read_10 (fun e4 e5 e6 e7 => K (.exit 2) (St.ofList [(4, (.v (.ptr 96 (.pair (.sl 5 (.int .u8)) (.pair (.int .i64) .unit))) (.o .s) (some e4))), (5, (.v (.sl 89 (.pair (.sl 86 (.sl 85 (.pair (.pair (.int .u64) (.pair (.int .u64) .unit)) (.pair (.pair (.int .i64) (.pair (.int .u64) .unit)) .unit)))) .unit)) (.o .s) e5)), (6, (.v (.int .i64) .s e6)), (7, (.v (.ptr 89 (.pair (.sl 86 (.sl 85 (.pair (.pair (.int .u64) (.pair (.int .u64) .unit)) (.pair (.pair (.int .i64) (.pair (.int .u64) .unit)) .unit)))) .unit)) (.o (.p (.o .s) .s)) (some e7)))]))) fuel_cert_Read_10 10 step_cert_Read_10 (by kernel_rfl) (fun R K => fun st => mP 96 (.pair (.sl 5 (.int .u8)) (.pair (.int .i64) .unit)) (.o .s) (st 4) fun y4 => mV (.sl 89 (.pair (.sl 86 (.sl 85 (.pair (.pair (.int .u64) (.pair (.int .u64) .unit)) (.pair (.pair (.int .i64) (.pair (.int .u64) .unit)) .unit)))) .unit)) (.o .s) (st 5) fun y5 => mV (.int .i64) .s (st 6) fun y6 => mP 89 (.pair (.sl 86 (.sl 85 (.pair (.pair (.int .u64) (.pair (.int .u64) .unit)) (.pair (.pair (.int .i64) (.pair (.int .u64) .unit)) .unit)))) .unit) (.o (.p (.o .s) .s)) (st 7) fun y7 => mV (.int .i64) .s (st 8) fun y8 => loopN (B_cert_Read_10 (fun e4 e5 e6 e7 => K (.exit 2) (St.ofList [(4, (.v (.ptr 96 (.pair (.sl 5 (.int .u8)) (.pair (.int .i64) .unit))) (.o .s) (some e4))), (5, (.v (.sl 89 (.pair (.sl 86 (.sl 85 (.pair (.pair (.int .u64) (.pair (.int .u64) .unit)) (.pair (.pair (.int .i64) (.pair (.int .u64) .unit)) .unit)))) .unit)) (.o .s) e5)), (6, (.v (.int .i64) .s e6)), (7, (.v (.ptr 89 (.pair (.sl 86 (.sl 85 (.pair (.pair (.int .u64) (.pair (.int .u64) .unit)) (.pair (.pair (.int .i64) (.pair (.int .u64) .unit)) .unit)))) .unit)) (.o (.p (.o .s) .s)) (some e7)))]))) (fuel_cert_Read_10 ⟨y4, y5, y6, y7, y8⟩) ⟨y4, y5, y6, y7, y8⟩) (fun R st K => by kernel_rfl) ?_
  intro R K st r h
  obtain ⟨y4, hy4, h⟩ := mP_inv h
  obtain ⟨y5, hy5, h⟩ := mV_inv h
  obtain ⟨y6, hy6, h⟩ := mV_inv h
  obtain ⟨y7, hy7, h⟩ := mP_inv h
  obtain ⟨y8, hy8, h⟩ := mV_inv h
  exact ⟨⟨y4, y5, y6, y7, y8⟩, only_of_list (ofList_cons hy4 (ofList_cons hy5 (ofList_cons hy6 (ofList_cons hy7 (ofList_cons hy8 rfl))))), h⟩
theorem step_cert_Read_6 (R : Type) (K : Ex → St → Option R) (rec : St → Option R) (x : X_cert_Read_6) : evC env_cert_Read lp_cert_Read inl0 c_cert_Read_6 (S_cert_Read_6 x) (fun e st => match e with | .normal => coerce [(4, false), (5, false), (6, false)] st rec | e => coerce (out_cert_Read_6 e) st (K e)) = B_cert_Read_6 (fun e4 e5 => K (.exit 0) (St.ofList [(4, (.v (.ptr 96 (.pair (.sl 5 (.int .u8)) (.pair (.int .i64) .unit))) (.o .s) (some e4))), (5, (.v (.sl 89 (.pair (.sl 86 (.sl 85 (.pair (.pair (.int .u64) (.pair (.int .u64) .unit)) (.pair (.pair (.int .i64) (.pair (.int .u64) .unit)) .unit)))) .unit)) (.o .s) e5))])) (fun x => rec (S_cert_Read_6 x)) x := by kernel_rfl
theorem ok_cert_Read_6 : LoopOk env_cert_Read lp_cert_Read inl0 c_cert_Read_6 := by
  refine loopOk_of (hd := [(4, false), (5, false), (6, false)]) (out := out_cert_Read_6) (S := S_cert_Read_6) (fun _ K => B_cert_Read_6 (fun e4 e5 => K (.exit 0) (St.ofList [(4, (.v (.ptr 96 (.pair (.sl 5 (.int .u8)) (.pair (.int .i64) .unit))) (.o .s) (some e4))), (5, (.v (.sl 89 (.pair (.sl 86 (.sl 85 (.pair (.pair (.int .u64) (.pair (.int .u64) .unit)) (.pair (.pair (.int .i64) (.pair (.int .u64) .unit)) .unit)))) .unit)) (.o .s) e5))]))) fuel_cert_Read_6 6 step_cert_Read_6 (by kernel_rfl) (fun R K => fun st => mP 96 (.pair (.sl 5 (.int .u8)) (.pair (.int .i64) .unit)) (.o .s) (st 4) fun y4 => mV (.sl 89 (.pair (.sl 86 (.sl 85 (.pair (.pair (.int .u64) (.pair (.int .u64) .unit)) (.pair (.pair (.int .i64) (.pair (.int .u64) .unit)) .unit)))) .unit)) (.o .s) (st 5) fun y5 => mV (.int .i64) .s (st 6) fun y6 => loopN (B_cert_Read_6 (fun e4 e5 => K (.exit 0) (St.ofList [(4, (.v (.ptr 96 (.pair (.sl 5 (.int .u8)) (.pair (.int .i64) .unit))) (.o .s) (some e4))), (5, (.v (.sl 89 (.pair (.sl 86 (.sl 85 (.pair (.pair (.int .u64) (.pair (.int .u64) .unit)) (.pair (.pair (.int .i64) (.pair (.int .u64) .unit)) .unit)))) .unit)) (.o .s) e5))]))) (fuel_cert_Read_6 ⟨y4, y5, y6⟩) ⟨y4, y5, y6⟩) (fun R st K => by kernel_rfl) ?_
  intro R K st r h
  obtain ⟨y4, hy4, h⟩ := mP_inv h
  obtain ⟨y5, hy5, h⟩ := mV_inv h
  obtain ⟨y6, hy6, h⟩ := mV_inv h
  exact ⟨⟨y4, y5, y6⟩, only_of_list (ofList_cons hy4 (ofList_cons hy5 (ofList_cons hy6 rfl))), h⟩
theorem loops_cert_Read : LoopsOk env_cert_Read lp_cert_Read inl0 (body Try.f19.body) := by
  refine loopsOk_of (fun c hc => ?_) (fun c hc => ?_)
  · rw [show loopsL (body Try.f19.body) = [c_cert_Read_6, c_cert_Read_10, c_cert_Read_14] by kernel_rfl] at hc
    simp only [List.mem_cons, List.not_mem_nil, or_false] at hc
    rcases hc with rfl | rfl | rfl
    · exact ok_cert_Read_6
    · exact ok_cert_Read_10
    · exact ok_cert_Read_14
  · rw [show joinsL env_cert_Read (body Try.f19.body) = [] by kernel_rfl] at hc; cases hc
noncomputable def p_cert_Read {R : Type} (a0 : List (Int)) (K : (List ((List (List (((Int) × (Int) × Unit) × ((Int) × (Int) × Unit) × Unit))) × Unit)) → Int → Option R) : Option R :=
  let v1 := ((List.length a0 : Nat) : Int)
  let v2 := decide (v1 > (65536 : Int))
  cond v2
  (K ([] : List ((List (List (((Int) × (Int) × Unit) × ((Int) × (Int) × Unit) × Unit))) × Unit)) (4 : Int))
  (p_cert_reader_count (a0, ((0 : Int), ())) (64 : Int) fun r3 b4 =>
  loopN (B_cert_Read_6 (fun w5 w6 =>
  let v7 := w5.2.1 == (0 : Int)
  cond v7
  (let v8 := ((List.length w5.1 : Nat) : Int)
  let v9 := decide (v8 > (0 : Int))
  cond v9
  (let v10 := (2 : Int) != (0 : Int)
  cond v10
  (K ([] : List ((List (List (((Int) × (Int) × Unit) × ((Int) × (Int) × Unit) × Unit))) × Unit)) (2 : Int))
  (K w6 (0 : Int)))
  (let v11 := w5.2.1 != (0 : Int)
  cond v11
  (K ([] : List ((List (List (((Int) × (Int) × Unit) × ((Int) × (Int) × Unit) × Unit))) × Unit)) w5.2.1)
  (K w6 (0 : Int))))
  (let v12 := w5.2.1 != (0 : Int)
  cond v12
  (K ([] : List ((List (List (((Int) × (Int) × Unit) × ((Int) × (Int) × Unit) × Unit))) × Unit)) w5.2.1)
  (K w6 (0 : Int))))) (fuel_cert_Read_6 ⟨b4, ([] : List ((List (List (((Int) × (Int) × Unit) × ((Int) × (Int) × Unit) × Unit))) × Unit)), r3⟩) ⟨b4, ([] : List ((List (List (((Int) × (Int) × Unit) × ((Int) × (Int) × Unit) × Unit))) × Unit)), r3⟩)
noncomputable def cs_cert_Read : CSpec := { ins := [(.val (.sl 5 (.int .u8)) .s)], outs := [((.sl 89 (.pair (.sl 86 (.sl 85 (.pair (.pair (.int .u64) (.pair (.int .u64) .unit)) (.pair (.pair (.int .i64) (.pair (.int .u64) .unit)) .unit)))) .unit)), (.o .s)), ((.int .i64), .s)], fn := fun (d : (List (Int)) × Unit) K _ => p_cert_Read d.1 (fun r0 r1 => K ((r0, r1, ()) : (List ((List (List (((Int) × (Int) × Unit) × ((Int) × (Int) × Unit) × Unit))) × Unit)) × Int × Unit) ((()) : Unit)) }
theorem h_cert_Read : Holds Try.prog 19 cs_cert_Read := by
  refine holds_of (env := env_cert_Read) (inl := inl0) (fn := Try.f19) (code := body Try.f19.body) (rs := [(2, none), (3, none)]) (lp := lp_cert_Read) mixed ⟨envTyOk.ty, envTyOk.eq⟩ gamOk_cert_Read inl0_ok Try.func19 (by kernel_rfl) (by kernel_rfl) (by kernel_rfl) (by kernel_rfl) (by kernel_rfl) loops_cert_Read (by kernel_rfl) ?_
  intro d R K Kp res h
  have : evC env_cert_Read lp_cert_Read inl0 (body Try.f19.body) (St.start cs_cert_Read.ins d) (retK env_cert_Read cs_cert_Read.ins cs_cert_Read.outs [(2, none), (3, none)] cs_cert_Read.pan K Kp) = cs_cert_Read.fn d K Kp := by kernel_rfl
  rw [this]; exact h
-- f18 trammel/trammelref01.Same
noncomputable def env_ref01_Same : Env := { ty := envTy, eq := envEq, gam := noG, n := Try.f18.ntmps }
structure X_ref01_Same_4 where
  f0 : List (Int)
  f1 : List (Int)
  f5 : Int

noncomputable def B_ref01_Same_4 {R : Type} (k_ret : Bool → Option R) (k_exit_0 : Option R) (rec : X_ref01_Same_4 → Option R) (x : X_ref01_Same_4) : Option R :=
  let v1 := ((List.length x.f0 : Nat) : Int)
  let v2 := decide (x.f5 < v1)
  cond v2
  (cond (inB x.f5 (List.length x.f0))
  (let v3 := List.getD x.f0 x.f5.toNat (0 : Int)
  cond (inB x.f5 (List.length x.f1))
  (let v4 := List.getD x.f1 x.f5.toNat (0 : Int)
  let v5 := v3 != v4
  cond v5
  (k_ret false)
  (let v6 := IntKind.i64.wrap (x.f5 + (1 : Int))
  rec ⟨x.f0, x.f1, v6⟩)) none) none)
  (k_exit_0)
noncomputable def S_ref01_Same_4 (x : X_ref01_Same_4) : St := St.ofList [(0, (.v (.sl 5 (.int .u8)) .s x.f0)), (1, (.v (.sl 5 (.int .u8)) .s x.f1)), (5, (.v (.int .i64) .s x.f5))]
def out_ref01_Same_4 : Ex → List (Nat × Bool) | .ret => [(4, false)] | .exit 0 => [] | _ => []
noncomputable def fuel_ref01_Same_4 (x : X_ref01_Same_4) : Nat := fuel64
noncomputable def c_ref01_Same_4 : Code := match loopAt 4 (body Try.f18.body) with | some c => c | none => .skip
noncomputable def lp_ref01_Same : Loops := fun z i R st K => match z, i with
  | false, 4 => coerce [(0, false), (1, false), (5, false)] st (fun st => mV (.sl 5 (.int .u8)) .s (st 0) fun y0 => mV (.sl 5 (.int .u8)) .s (st 1) fun y1 => mV (.int .i64) .s (st 5) fun y5 => loopN (B_ref01_Same_4 (fun e4 => K .ret (St.ofList [(4, (.v .bool .s e4))])) (K (.exit 0) (St.ofList []))) (fuel_ref01_Same_4 ⟨y0, y1, y5⟩) ⟨y0, y1, y5⟩)
  | _, _ => none
theorem step_ref01_Same_4 (R : Type) (K : Ex → St → Option R) (rec : St → Option R) (x : X_ref01_Same_4) : evC env_ref01_Same lp_ref01_Same inl0 c_ref01_Same_4 (S_ref01_Same_4 x) (fun e st => match e with | .normal => coerce [(0, false), (1, false), (5, false)] st rec | e => coerce (out_ref01_Same_4 e) st (K e)) = B_ref01_Same_4 (fun e4 => K .ret (St.ofList [(4, (.v .bool .s e4))])) (K (.exit 0) (St.ofList [])) (fun x => rec (S_ref01_Same_4 x)) x := by kernel_rfl
theorem ok_ref01_Same_4 : LoopOk env_ref01_Same lp_ref01_Same inl0 c_ref01_Same_4 := by
  refine loopOk_of (hd := [(0, false), (1, false), (5, false)]) (out := out_ref01_Same_4) (S := S_ref01_Same_4) (fun _ K => B_ref01_Same_4 (fun e4 => K .ret (St.ofList [(4, (.v .bool .s e4))])) (K (.exit 0) (St.ofList []))) fuel_ref01_Same_4 4 step_ref01_Same_4 (by kernel_rfl) (fun R K => fun st => mV (.sl 5 (.int .u8)) .s (st 0) fun y0 => mV (.sl 5 (.int .u8)) .s (st 1) fun y1 => mV (.int .i64) .s (st 5) fun y5 => loopN (B_ref01_Same_4 (fun e4 => K .ret (St.ofList [(4, (.v .bool .s e4))])) (K (.exit 0) (St.ofList []))) (fuel_ref01_Same_4 ⟨y0, y1, y5⟩) ⟨y0, y1, y5⟩) (fun R st K => by kernel_rfl) ?_
  intro R K st r h
  obtain ⟨y0, hy0, h⟩ := mV_inv h
  obtain ⟨y1, hy1, h⟩ := mV_inv h
  obtain ⟨y5, hy5, h⟩ := mV_inv h
  exact ⟨⟨y0, y1, y5⟩, only_of_list (ofList_cons hy0 (ofList_cons hy1 (ofList_cons hy5 rfl))), h⟩
theorem loops_ref01_Same : LoopsOk env_ref01_Same lp_ref01_Same inl0 (body Try.f18.body) := by
  refine loopsOk_of (fun c hc => ?_) (fun c hc => ?_)
  · rw [show loopsL (body Try.f18.body) = [c_ref01_Same_4] by kernel_rfl] at hc
    simp only [List.mem_cons, List.not_mem_nil, or_false] at hc
    rcases hc with rfl
    · exact ok_ref01_Same_4
  · rw [show joinsL env_ref01_Same (body Try.f18.body) = [] by kernel_rfl] at hc; cases hc
noncomputable def p_ref01_Same {R : Type} (a0 : List (Int)) (a1 : List (Int)) (K : Bool → Option R) : Option R :=
  let v1 := ((List.length a0 : Nat) : Int)
  let v2 := ((List.length a1 : Nat) : Int)
  let v3 := v1 != v2
  cond v3
  (K false)
  (loopN (B_ref01_Same_4 (fun w4 =>
  K w4) (K true)) (fuel_ref01_Same_4 ⟨a0, a1, (0 : Int)⟩) ⟨a0, a1, (0 : Int)⟩)
noncomputable def cs_ref01_Same : CSpec := { ins := [(.val (.sl 5 (.int .u8)) .s), (.val (.sl 5 (.int .u8)) .s)], outs := [(.bool, .s)], fn := fun (d : (List (Int)) × (List (Int)) × Unit) K _ => p_ref01_Same d.1 d.2.1 (fun r0 => K ((r0, ()) : Bool × Unit) ((()) : Unit)) }
theorem h_ref01_Same : Holds Try.prog 18 cs_ref01_Same := by
  refine holds_of (env := env_ref01_Same) (inl := inl0) (fn := Try.f18) (code := body Try.f18.body) (rs := [(4, none)]) (lp := lp_ref01_Same) mixed ⟨envTyOk.ty, envTyOk.eq⟩ (fun _ _ _ h => by cases h) inl0_ok Try.func18 (by kernel_rfl) (by kernel_rfl) (by kernel_rfl) (by kernel_rfl) (by kernel_rfl) loops_ref01_Same (by kernel_rfl) ?_
  intro d R K Kp res h
  have : evC env_ref01_Same lp_ref01_Same inl0 (body Try.f18.body) (St.start cs_ref01_Same.ins d) (retK env_ref01_Same cs_ref01_Same.ins cs_ref01_Same.outs [(4, none)] cs_ref01_Same.pan K Kp) = cs_ref01_Same.fn d K Kp := by kernel_rfl
  rw [this]; exact h
-- f14 trammel/trammellaw21.awake
noncomputable def gam_law21_awake : FuncId → List FuncId → Option CSpec
  | 16, [] => some cs_cert_Put
  | 19, [] => some cs_cert_Read
  | 18, [] => some cs_ref01_Same
  | _, _ => none
noncomputable def env_law21_awake : Env := { ty := envTy, eq := envEq, gam := gam_law21_awake, n := Try.f14.ntmps }
theorem gamOk_law21_awake : EnvFn Try.prog env_law21_awake := by
  intro f gs c h
  unfold env_law21_awake gam_law21_awake at h
  simp only at h
  split at h <;> first | (cases h; done) | (cases h; exact h_cert_Put) | (cases h; exact h_cert_Read) | (cases h; exact h_ref01_Same)
noncomputable def p_law21_awake {R : Type}  (K : Bool → Option R) : Option R :=
  let v1 := List.set (List.replicate 1 (((0 : Int), ((0 : Int), ())), (((0 : Int), ((0 : Int), ())), ()))) 0 (((0 : Int), ((255 : Int), ())), (((0 : Int), ((0 : Int), ())), ()))
  let v2 := List.set (List.replicate 1 ([] : List (((Int) × (Int) × Unit) × ((Int) × (Int) × Unit) × Unit))) 0 v1
  let v3 := List.set (List.replicate 1 (([] : List (List (((Int) × (Int) × Unit) × ((Int) × (Int) × Unit) × Unit))), ())) 0 (v2, ())
  p_cert_Put v3 fun r4 r5 =>
  let v6 := List.set (List.set (List.set (List.set (List.set (List.set (List.set (List.set (List.replicate 8 (0 : Int)) 0 (1 : Int)) 1 (1 : Int)) 2 (1 : Int)) 3 (0 : Int)) 4 (255 : Int)) 5 (1 : Int)) 6 (0 : Int)) 7 (0 : Int)
  p_cert_Read v6 fun r7 r8 =>
  let v9 := r5 == (0 : Int)
  cond v9
  (let v10 := List.set (List.set (List.set (List.set (List.set (List.set (List.set (List.set (List.replicate 8 (0 : Int)) 0 (1 : Int)) 1 (1 : Int)) 2 (1 : Int)) 3 (0 : Int)) 4 (255 : Int)) 5 (1 : Int)) 6 (0 : Int)) 7 (0 : Int)
  p_ref01_Same r4 v10 fun r11 =>
  cond r11
  (let v12 := r8 == (0 : Int)
  cond v12
  (let v13 := ((List.length r7 : Nat) : Int)
  let v14 := v13 == (1 : Int)
  cond v14
  (cond (inB (0 : Int) (List.length r7))
  (let v15 := (List.getD r7 (0 : Int).toNat (([] : List (List (((Int) × (Int) × Unit) × ((Int) × (Int) × Unit) × Unit))), ())).1
  cond (inB (0 : Int) (List.length v15))
  (let v16 := List.getD v15 (0 : Int).toNat ([] : List (((Int) × (Int) × Unit) × ((Int) × (Int) × Unit) × Unit))
  cond (inB (0 : Int) (List.length v16))
  (let v17 := List.getD v16 (0 : Int).toNat (((0 : Int), ((0 : Int), ())), (((0 : Int), ((0 : Int), ())), ()))
  let v18 := v17.1.2.1 == (255 : Int)
  K v18) none) none) none)
  (K false))
  (K false))
  (K false))
  (K false)
noncomputable def cs_law21_awake : CSpec := { ins := [], outs := [(.bool, .s)], fn := fun (d : Unit) K _ => p_law21_awake  (fun r0 => K ((r0, ()) : Bool × Unit) ((()) : Unit)) }
theorem h_law21_awake : Holds Try.prog 14 cs_law21_awake := by
  refine holds_of (env := env_law21_awake) (inl := inl0) (fn := Try.f14) (code := body Try.f14.body) (rs := [(0, none)]) (lp := lp0) mixed ⟨envTyOk.ty, envTyOk.eq⟩ gamOk_law21_awake inl0_ok Try.func14 (by kernel_rfl) (by kernel_rfl) (by kernel_rfl) (by kernel_rfl) (by kernel_rfl) (loopsOk_none (by kernel_rfl) (by kernel_rfl)) (by kernel_rfl) ?_
  intro d R K Kp res h
  have : evC env_law21_awake lp0 inl0 (body Try.f14.body) (St.start cs_law21_awake.ins d) (retK env_law21_awake cs_law21_awake.ins cs_law21_awake.outs [(0, none)] cs_law21_awake.pan K Kp) = cs_law21_awake.fn d K Kp := by kernel_rfl
  rw [this]; exact h
-- f15 trammel/trammelref21.Short
noncomputable def lv_ref21_Short : Nat → Option (List Nat)
  | 0 => some [0]
  | 1 => some [0]
  | 2 => some []
  | 3 => some [0]
  | 4 => some [0, 3]
  | 5 => some [0, 3, 4]
  | 6 => some [0, 3, 4]
  | 7 => some [0, 3, 4]
  | 8 => some []
  | 9 => some [0, 3, 4]
  | 10 => some [0, 3, 4]
  | 11 => some [0, 3, 4, 5]
  | 12 => some [0, 3, 4, 5]
  | 13 => some [0, 3, 4, 5]
  | 14 => some []
  | 15 => some [0, 3, 4, 5]
  | 16 => some [0, 3, 4]
  | 17 => some []
  | 18 => some []
  | _ => none
noncomputable def env_ref21_Short : Env := { ty := envTy, eq := envEq, gam := noG, n := Try.f15.ntmps, lv := lv_ref21_Short }
structure X_ref21_Short_11 where
  f0 : List ((List (List (((Int) × (Int) × Unit) × ((Int) × (Int) × Unit) × Unit))) × Unit)
  f3 : Int
  f4 : Int
  f5 : Int

noncomputable def B_ref21_Short_11 {R : Type} (k_ret : Bool → Option R) (k_exit_2 : (List ((List (List (((Int) × (Int) × Unit) × ((Int) × (Int) × Unit) × Unit))) × Unit)) → Int → Int → Option R) (rec : X_ref21_Short_11 → Option R) (x : X_ref21_Short_11) : Option R :=
  cond (inB x.f4 (List.length x.f0))
  (let v1 := List.getD x.f0 x.f4.toNat (([] : List (List (((Int) × (Int) × Unit) × ((Int) × (Int) × Unit) × Unit))), ())
  let v2 := ((List.length v1.1 : Nat) : Int)
  let v3 := decide (x.f5 < v2)
  cond v3
  (let v4 := decide (x.f3 ≤ (3000 : Int))
  cond v4
  (cond (inB x.f4 (List.length x.f0))
  (let v5 := List.getD x.f0 x.f4.toNat (([] : List (List (((Int) × (Int) × Unit) × ((Int) × (Int) × Unit) × Unit))), ())
  cond (inB x.f5 (List.length v5.1))
  (let v6 := List.getD v5.1 x.f5.toNat ([] : List (((Int) × (Int) × Unit) × ((Int) × (Int) × Unit) × Unit))
  let v7 := ((List.length v6 : Nat) : Int)
  let v8 := decide (v7 > (100 : Int))
  cond v8
  (k_ret false)
  (cond (inB x.f4 (List.length x.f0))
  (let v9 := List.getD x.f0 x.f4.toNat (([] : List (List (((Int) × (Int) × Unit) × ((Int) × (Int) × Unit) × Unit))), ())
  cond (inB x.f5 (List.length v9.1))
  (let v10 := List.getD v9.1 x.f5.toNat ([] : List (((Int) × (Int) × Unit) × ((Int) × (Int) × Unit) × Unit))
  let v11 := ((List.length v10 : Nat) : Int)
  let v12 := IntKind.i64.wrap (x.f3 + v11)
  let v13 := IntKind.i64.wrap (x.f5 + (1 : Int))
  rec ⟨x.f0, v12, x.f4, v13⟩) none) none)) none) none)
  (k_exit_2 x.f0 x.f3 x.f4))
  (k_exit_2 x.f0 x.f3 x.f4)) none
noncomputable def S_ref21_Short_11 (x : X_ref21_Short_11) : St := St.ofList [(0, (.v (.sl 89 (.pair (.sl 86 (.sl 85 (.pair (.pair (.int .u64) (.pair (.int .u64) .unit)) (.pair (.pair (.int .i64) (.pair (.int .u64) .unit)) .unit)))) .unit)) .s x.f0)), (3, (.v (.int .i64) .s x.f3)), (4, (.v (.int .i64) .s x.f4)), (5, (.v (.int .i64) .s x.f5))]
def out_ref21_Short_11 : Ex → List (Nat × Bool) | .ret => [(2, false)] | .exit 2 => [(0, false), (3, false), (4, false)] | _ => []
noncomputable def fuel_ref21_Short_11 (x : X_ref21_Short_11) : Nat := fuel64
noncomputable def c_ref21_Short_11 : Code := match loopAt 11 (body Try.f15.body) with | some c => c | none => .skip
structure X_ref21_Short_5 where
  f0 : List ((List (List (((Int) × (Int) × Unit) × ((Int) × (Int) × Unit) × Unit))) × Unit)
  f3 : Int
  f4 : Int

noncomputable def B_ref21_Short_5 {R : Type} (k_ret : Bool → Option R) (k_exit_0 : Option R) (rec : X_ref21_Short_5 → Option R) (x : X_ref21_Short_5) : Option R :=
  let v1 := ((List.length x.f0 : Nat) : Int)
  let v2 := decide (x.f4 < v1)
  cond v2
  (cond (inB x.f4 (List.length x.f0))
  (let v3 := List.getD x.f0 x.f4.toNat (([] : List (List (((Int) × (Int) × Unit) × ((Int) × (Int) × Unit) × Unit))), ())
  let v4 := ((List.length v3.1 : Nat) : Int)
  let v5 := decide (v4 > (2100 : Int))
  cond v5
  (k_ret false)
  (cond (inB x.f4 (List.length x.f0))
  (let v6 := List.getD x.f0 x.f4.toNat (([] : List (List (((Int) × (Int) × Unit) × ((Int) × (Int) × Unit) × Unit))), ())
  let v7 := ((List.length v6.1 : Nat) : Int)
  let v8 := IntKind.i64.wrap (x.f3 + v7)
  loopN (B_ref21_Short_11 (fun w9 =>
  k_ret w9) (fun w10 w11 w12 =>
  let v13 := decide (w11 > (3000 : Int))
  cond v13
  (k_ret false)
  (let v14 := IntKind.i64.wrap (w12 + (1 : Int))
  rec ⟨w10, w11, v14⟩))) (fuel_ref21_Short_11 ⟨x.f0, v8, x.f4, (0 : Int)⟩) ⟨x.f0, v8, x.f4, (0 : Int)⟩) none)) none)
  (k_exit_0)
noncomputable def S_ref21_Short_5 (x : X_ref21_Short_5) : St := St.ofList [(0, (.v (.sl 89 (.pair (.sl 86 (.sl 85 (.pair (.pair (.int .u64) (.pair (.int .u64) .unit)) (.pair (.pair (.int .i64) (.pair (.int .u64) .unit)) .unit)))) .unit)) .s x.f0)), (3, (.v (.int .i64) .s x.f3)), (4, (.v (.int .i64) .s x.f4))]
def out_ref21_Short_5 : Ex → List (Nat × Bool) | .ret => [(2, false)] | .exit 0 => [] | _ => []
noncomputable def fuel_ref21_Short_5 (x : X_ref21_Short_5) : Nat := fuel64
noncomputable def c_ref21_Short_5 : Code := match loopAt 5 (body Try.f15.body) with | some c => c | none => .skip
noncomputable def lp_ref21_Short : Loops := fun z i R st K => match z, i with
  | false, 11 => coerce [(0, false), (3, false), (4, false), (5, false)] st (fun st => mV (.sl 89 (.pair (.sl 86 (.sl 85 (.pair (.pair (.int .u64) (.pair (.int .u64) .unit)) (.pair (.pair (.int .i64) (.pair (.int .u64) .unit)) .unit)))) .unit)) .s (st 0) fun y0 => mV (.int .i64) .s (st 3) fun y3 => mV (.int .i64) .s (st 4) fun y4 => mV (.int .i64) .s (st 5) fun y5 => loopN (B_ref21_Short_11 (fun e2 => K .ret (St.ofList [(2, (.v .bool .s e2))])) (fun e0 e3 e4 => K (.exit 2) (St.ofList [(0, (.v (.sl 89 (.pair (.sl 86 (.sl 85 (.pair (.pair (.int .u64) (.pair (.int .u64) .unit)) (.pair (.pair (.int .i64) (.pair (.int .u64) .unit)) .unit)))) .unit)) .s e0)), (3, (.v (.int .i64) .s e3)), (4, (.v (.int .i64) .s e4))]))) (fuel_ref21_Short_11 ⟨y0, y3, y4, y5⟩) ⟨y0, y3, y4, y5⟩)
  | false, 5 => coerce [(0, false), (3, false), (4, false)] st (fun st => mV (.sl 89 (.pair (.sl 86 (.sl 85 (.pair (.pair (.int .u64) (.pair (.int .u64) .unit)) (.pair (.pair (.int .i64) (.pair (.int .u64) .unit)) .unit)))) .unit)) .s (st 0) fun y0 => mV (.int .i64) .s (st 3) fun y3 => mV (.int .i64) .s (st 4) fun y4 => loopN (B_ref21_Short_5 (fun e2 => K .ret (St.ofList [(2, (.v .bool .s e2))])) (K (.exit 0) (St.ofList []))) (fuel_ref21_Short_5 ⟨y0, y3, y4⟩) ⟨y0, y3, y4⟩)
  | _, _ => none
theorem step_ref21_Short_11 (R : Type) (K : Ex → St → Option R) (rec : St → Option R) (x : X_ref21_Short_11) : evC env_ref21_Short lp_ref21_Short inl0 c_ref21_Short_11 (S_ref21_Short_11 x) (fun e st => match e with | .normal => coerce [(0, false), (3, false), (4, false), (5, false)] st rec | e => coerce (out_ref21_Short_11 e) st (K e)) = B_ref21_Short_11 (fun e2 => K .ret (St.ofList [(2, (.v .bool .s e2))])) (fun e0 e3 e4 => K (.exit 2) (St.ofList [(0, (.v (.sl 89 (.pair (.sl 86 (.sl 85 (.pair (.pair (.int .u64) (.pair (.int .u64) .unit)) (.pair (.pair (.int .i64) (.pair (.int .u64) .unit)) .unit)))) .unit)) .s e0)), (3, (.v (.int .i64) .s e3)), (4, (.v (.int .i64) .s e4))])) (fun x => rec (S_ref21_Short_11 x)) x := by kernel_rfl
theorem ok_ref21_Short_11 : LoopOk env_ref21_Short lp_ref21_Short inl0 c_ref21_Short_11 := by
  refine loopOk_of (hd := [(0, false), (3, false), (4, false), (5, false)]) (out := out_ref21_Short_11) (S := S_ref21_Short_11) (fun _ K => B_ref21_Short_11 (fun e2 => K .ret (St.ofList [(2, (.v .bool .s e2))])) (fun e0 e3 e4 => K (.exit 2) (St.ofList [(0, (.v (.sl 89 (.pair (.sl 86 (.sl 85 (.pair (.pair (.int .u64) (.pair (.int .u64) .unit)) (.pair (.pair (.int .i64) (.pair (.int .u64) .unit)) .unit)))) .unit)) .s e0)), (3, (.v (.int .i64) .s e3)), (4, (.v (.int .i64) .s e4))]))) fuel_ref21_Short_11 11 step_ref21_Short_11 (by kernel_rfl) (fun R K => fun st => mV (.sl 89 (.pair (.sl 86 (.sl 85 (.pair (.pair (.int .u64) (.pair (.int .u64) .unit)) (.pair (.pair (.int .i64) (.pair (.int .u64) .unit)) .unit)))) .unit)) .s (st 0) fun y0 => mV (.int .i64) .s (st 3) fun y3 => mV (.int .i64) .s (st 4) fun y4 => mV (.int .i64) .s (st 5) fun y5 => loopN (B_ref21_Short_11 (fun e2 => K .ret (St.ofList [(2, (.v .bool .s e2))])) (fun e0 e3 e4 => K (.exit 2) (St.ofList [(0, (.v (.sl 89 (.pair (.sl 86 (.sl 85 (.pair (.pair (.int .u64) (.pair (.int .u64) .unit)) (.pair (.pair (.int .i64) (.pair (.int .u64) .unit)) .unit)))) .unit)) .s e0)), (3, (.v (.int .i64) .s e3)), (4, (.v (.int .i64) .s e4))]))) (fuel_ref21_Short_11 ⟨y0, y3, y4, y5⟩) ⟨y0, y3, y4, y5⟩) (fun R st K => by kernel_rfl) ?_
  intro R K st r h
  obtain ⟨y0, hy0, h⟩ := mV_inv h
  obtain ⟨y3, hy3, h⟩ := mV_inv h
  obtain ⟨y4, hy4, h⟩ := mV_inv h
  obtain ⟨y5, hy5, h⟩ := mV_inv h
  exact ⟨⟨y0, y3, y4, y5⟩, only_of_list (ofList_cons hy0 (ofList_cons hy3 (ofList_cons hy4 (ofList_cons hy5 rfl)))), h⟩
theorem step_ref21_Short_5 (R : Type) (K : Ex → St → Option R) (rec : St → Option R) (x : X_ref21_Short_5) : evC env_ref21_Short lp_ref21_Short inl0 c_ref21_Short_5 (S_ref21_Short_5 x) (fun e st => match e with | .normal => coerce [(0, false), (3, false), (4, false)] st rec | e => coerce (out_ref21_Short_5 e) st (K e)) = B_ref21_Short_5 (fun e2 => K .ret (St.ofList [(2, (.v .bool .s e2))])) (K (.exit 0) (St.ofList [])) (fun x => rec (S_ref21_Short_5 x)) x := by kernel_rfl
theorem ok_ref21_Short_5 : LoopOk env_ref21_Short lp_ref21_Short inl0 c_ref21_Short_5 := by
  refine loopOk_of (hd := [(0, false), (3, false), (4, false)]) (out := out_ref21_Short_5) (S := S_ref21_Short_5) (fun _ K => B_ref21_Short_5 (fun e2 => K .ret (St.ofList [(2, (.v .bool .s e2))])) (K (.exit 0) (St.ofList []))) fuel_ref21_Short_5 5 step_ref21_Short_5 (by kernel_rfl) (fun R K => fun st => mV (.sl 89 (.pair (.sl 86 (.sl 85 (.pair (.pair (.int .u64) (.pair (.int .u64) .unit)) (.pair (.pair (.int .i64) (.pair (.int .u64) .unit)) .unit)))) .unit)) .s (st 0) fun y0 => mV (.int .i64) .s (st 3) fun y3 => mV (.int .i64) .s (st 4) fun y4 => loopN (B_ref21_Short_5 (fun e2 => K .ret (St.ofList [(2, (.v .bool .s e2))])) (K (.exit 0) (St.ofList []))) (fuel_ref21_Short_5 ⟨y0, y3, y4⟩) ⟨y0, y3, y4⟩) (fun R st K => by kernel_rfl) ?_
  intro R K st r h
  obtain ⟨y0, hy0, h⟩ := mV_inv h
  obtain ⟨y3, hy3, h⟩ := mV_inv h
  obtain ⟨y4, hy4, h⟩ := mV_inv h
  exact ⟨⟨y0, y3, y4⟩, only_of_list (ofList_cons hy0 (ofList_cons hy3 (ofList_cons hy4 rfl))), h⟩
theorem loops_ref21_Short : LoopsOk env_ref21_Short lp_ref21_Short inl0 (body Try.f15.body) := by
  refine loopsOk_of (fun c hc => ?_) (fun c hc => ?_)
  · rw [show loopsL (body Try.f15.body) = [c_ref21_Short_5, c_ref21_Short_11] by kernel_rfl] at hc
    simp only [List.mem_cons, List.not_mem_nil, or_false] at hc
    rcases hc with rfl | rfl
    · exact ok_ref21_Short_5
    · exact ok_ref21_Short_11
  · rw [show joinsL env_ref21_Short (body Try.f15.body) = [] by kernel_rfl] at hc; cases hc
noncomputable def p_ref21_Short {R : Type} (a0 : List ((List (List (((Int) × (Int) × Unit) × ((Int) × (Int) × Unit) × Unit))) × Unit)) (K : Bool → Option R) : Option R :=
  let v1 := ((List.length a0 : Nat) : Int)
  let v2 := decide (v1 > (70 : Int))
  cond v2
  (K false)
  (loopN (B_ref21_Short_5 (fun w3 =>
  K w3) (K true)) (fuel_ref21_Short_5 ⟨a0, (0 : Int), (0 : Int)⟩) ⟨a0, (0 : Int), (0 : Int)⟩)
noncomputable def cs_ref21_Short : CSpec := { ins := [(.val (.sl 89 (.pair (.sl 86 (.sl 85 (.pair (.pair (.int .u64) (.pair (.int .u64) .unit)) (.pair (.pair (.int .i64) (.pair (.int .u64) .unit)) .unit)))) .unit)) .s)], outs := [(.bool, .s)], fn := fun (d : (List ((List (List (((Int) × (Int) × Unit) × ((Int) × (Int) × Unit) × Unit))) × Unit)) × Unit) K _ => p_ref21_Short d.1 (fun r0 => K ((r0, ()) : Bool × Unit) ((()) : Unit)) }
theorem h_ref21_Short : Holds Try.prog 15 cs_ref21_Short := by
  refine holds_of (env := env_ref21_Short) (inl := inl0) (fn := Try.f15) (code := body Try.f15.body) (rs := [(2, none)]) (lp := lp_ref21_Short) mixed ⟨envTyOk.ty, envTyOk.eq⟩ (fun _ _ _ h => by cases h) inl0_ok Try.func15 (by kernel_rfl) (by kernel_rfl) (by kernel_rfl) (by kernel_rfl) (by kernel_rfl) loops_ref21_Short (by kernel_rfl) ?_
  intro d R K Kp res h
  have : evC env_ref21_Short lp_ref21_Short inl0 (body Try.f15.body) (St.start cs_ref21_Short.ins d) (retK env_ref21_Short cs_ref21_Short.ins cs_ref21_Short.outs [(2, none)] cs_ref21_Short.pan K Kp) = cs_ref21_Short.fn d K Kp := by kernel_rfl
  rw [this]; exact h
-- f38 trammel/trammelref21.right
noncomputable def env_ref21_right : Env := { ty := envTy, eq := envEq, gam := noG, n := Try.f38.ntmps }
noncomputable def p_ref21_right {R : Type} (a0 : ((Int) × (Int) × Unit) × ((Int) × (Int) × Unit) × Unit) (K : Bool → Option R) : Option R :=
  let v1 := decide (a0.1.1 ≤ a0.1.2.1)
  cond v1
  (let v2 := decide (a0.2.1.1 ≥ (0 : Int))
  cond v2
  (let v3 := decide (a0.2.1.1 ≤ (64 : Int))
  cond v3
  (let v4 := a0.2.1.1 == (64 : Int)
  cond v4
  (K true)
  (let v5 := IntKind.u64.wrap a0.2.1.1
  cond (decide (0 ≤ v5))
  (let v6 := shrI .u64 a0.2.1.2.1 v5
  let v7 := v6 == (0 : Int)
  K v7) none))
  (K false))
  (K false))
  (K false)
noncomputable def cs_ref21_right : CSpec := { ins := [(.val (.pair (.pair (.int .u64) (.pair (.int .u64) .unit)) (.pair (.pair (.int .i64) (.pair (.int .u64) .unit)) .unit)) .s)], outs := [(.bool, .s)], fn := fun (d : (((Int) × (Int) × Unit) × ((Int) × (Int) × Unit) × Unit) × Unit) K _ => p_ref21_right d.1 (fun r0 => K ((r0, ()) : Bool × Unit) ((()) : Unit)) }
theorem h_ref21_right : Holds Try.prog 38 cs_ref21_right := by
  refine holds_of (env := env_ref21_right) (inl := inl0) (fn := Try.f38) (code := body Try.f38.body) (rs := [(2, none)]) (lp := lp0) mixed ⟨envTyOk.ty, envTyOk.eq⟩ (fun _ _ _ h => by cases h) inl0_ok Try.func38 (by kernel_rfl) (by kernel_rfl) (by kernel_rfl) (by kernel_rfl) (by kernel_rfl) (loopsOk_none (by kernel_rfl) (by kernel_rfl)) (by kernel_rfl) ?_
  intro d R K Kp res h
  have : evC env_ref21_right lp0 inl0 (body Try.f38.body) (St.start cs_ref21_right.ins d) (retK env_ref21_right cs_ref21_right.ins cs_ref21_right.outs [(2, none)] cs_ref21_right.pan K Kp) = cs_ref21_right.fn d K Kp := by kernel_rfl
  rw [this]; exact h
-- f39 trammel/trammelref01.PutU
noncomputable def env_ref01_PutU : Env := { ty := envTy, eq := envEq, gam := noG, n := Try.f39.ntmps }
structure X_ref01_PutU_2 where
  f0 : Int
  f3 : List (Int)

noncomputable def B_ref01_PutU_2 {R : Type} (k_ret : (List (Int)) → Option R) (rec : X_ref01_PutU_2 → Option R) (x : X_ref01_PutU_2) : Option R :=
  cond ((128 : Int) != 0)
  (let v1 := Int.tmod x.f0 (128 : Int)
  let v2 := IntKind.u8.wrap v1
  cond ((128 : Int) != 0)
  (let v3 := IntKind.u64.wrap (Int.tdiv x.f0 (128 : Int))
  let v4 := v3 == (0 : Int)
  cond v4
  (let v5 := List.set (List.replicate 1 (0 : Int)) 0 v2
  cond (decide (List.length x.f3 + List.length v5 ≤ most))
  (let v6 := x.f3 ++ v5
  k_ret v6) none)
  (let v7 := IntKind.u8.wrap (v2 + (128 : Int))
  let v8 := List.set (List.replicate 1 (0 : Int)) 0 v7
  cond (decide (List.length x.f3 + List.length v8 ≤ most))
  (let v9 := x.f3 ++ v8
  rec ⟨v3, v9⟩) none)) none) none
noncomputable def S_ref01_PutU_2 (x : X_ref01_PutU_2) : St := St.ofList [(0, (.v (.int .u64) .s x.f0)), (3, (.v (.sl 5 (.int .u8)) (.o .s) x.f3))]
def out_ref01_PutU_2 : Ex → List (Nat × Bool) | .ret => [(2, false)] | _ => []
noncomputable def fuel_ref01_PutU_2 (x : X_ref01_PutU_2) : Nat := fuel64
noncomputable def c_ref01_PutU_2 : Code := match loopAt 2 (body Try.f39.body) with | some c => c | none => .skip
noncomputable def lp_ref01_PutU : Loops := fun z i R st K => match z, i with
  | false, 2 => coerce [(0, false), (3, false)] st (fun st => mV (.int .u64) .s (st 0) fun y0 => mV (.sl 5 (.int .u8)) (.o .s) (st 3) fun y3 => loopN (B_ref01_PutU_2 (fun e2 => K .ret (St.ofList [(2, (.v (.sl 5 (.int .u8)) (.o .s) e2))]))) (fuel_ref01_PutU_2 ⟨y0, y3⟩) ⟨y0, y3⟩)
  | _, _ => none
theorem step_ref01_PutU_2 (R : Type) (K : Ex → St → Option R) (rec : St → Option R) (x : X_ref01_PutU_2) : evC env_ref01_PutU lp_ref01_PutU inl0 c_ref01_PutU_2 (S_ref01_PutU_2 x) (fun e st => match e with | .normal => coerce [(0, false), (3, false)] st rec | e => coerce (out_ref01_PutU_2 e) st (K e)) = B_ref01_PutU_2 (fun e2 => K .ret (St.ofList [(2, (.v (.sl 5 (.int .u8)) (.o .s) e2))])) (fun x => rec (S_ref01_PutU_2 x)) x := by kernel_rfl
theorem ok_ref01_PutU_2 : LoopOk env_ref01_PutU lp_ref01_PutU inl0 c_ref01_PutU_2 := by
  refine loopOk_of (hd := [(0, false), (3, false)]) (out := out_ref01_PutU_2) (S := S_ref01_PutU_2) (fun _ K => B_ref01_PutU_2 (fun e2 => K .ret (St.ofList [(2, (.v (.sl 5 (.int .u8)) (.o .s) e2))]))) fuel_ref01_PutU_2 2 step_ref01_PutU_2 (by kernel_rfl) (fun R K => fun st => mV (.int .u64) .s (st 0) fun y0 => mV (.sl 5 (.int .u8)) (.o .s) (st 3) fun y3 => loopN (B_ref01_PutU_2 (fun e2 => K .ret (St.ofList [(2, (.v (.sl 5 (.int .u8)) (.o .s) e2))]))) (fuel_ref01_PutU_2 ⟨y0, y3⟩) ⟨y0, y3⟩) (fun R st K => by kernel_rfl) ?_
  intro R K st r h
  obtain ⟨y0, hy0, h⟩ := mV_inv h
  obtain ⟨y3, hy3, h⟩ := mV_inv h
  exact ⟨⟨y0, y3⟩, only_of_list (ofList_cons hy0 (ofList_cons hy3 rfl)), h⟩
theorem loops_ref01_PutU : LoopsOk env_ref01_PutU lp_ref01_PutU inl0 (body Try.f39.body) := by
  refine loopsOk_of (fun c hc => ?_) (fun c hc => ?_)
  · rw [show loopsL (body Try.f39.body) = [c_ref01_PutU_2] by kernel_rfl] at hc
    simp only [List.mem_cons, List.not_mem_nil, or_false] at hc
    rcases hc with rfl
    · exact ok_ref01_PutU_2
  · rw [show joinsL env_ref01_PutU (body Try.f39.body) = [] by kernel_rfl] at hc; cases hc
noncomputable def p_ref01_PutU {R : Type} (a0 : Int) (K : (List (Int)) → Option R) : Option R :=
  loopN (B_ref01_PutU_2 (fun w1 =>
  K w1)) (fuel_ref01_PutU_2 ⟨a0, ([] : List (Int))⟩) ⟨a0, ([] : List (Int))⟩
noncomputable def cs_ref01_PutU : CSpec := { ins := [(.val (.int .u64) .s)], outs := [((.sl 5 (.int .u8)), (.o .s))], fn := fun (d : Int × Unit) K _ => p_ref01_PutU d.1 (fun r0 => K ((r0, ()) : (List (Int)) × Unit) ((()) : Unit)) }
theorem h_ref01_PutU : Holds Try.prog 39 cs_ref01_PutU := by
  refine holds_of (env := env_ref01_PutU) (inl := inl0) (fn := Try.f39) (code := body Try.f39.body) (rs := [(2, none)]) (lp := lp_ref01_PutU) mixed ⟨envTyOk.ty, envTyOk.eq⟩ (fun _ _ _ h => by cases h) inl0_ok Try.func39 (by kernel_rfl) (by kernel_rfl) (by kernel_rfl) (by kernel_rfl) (by kernel_rfl) loops_ref01_PutU (by kernel_rfl) ?_
  intro d R K Kp res h
  have : evC env_ref01_PutU lp_ref01_PutU inl0 (body Try.f39.body) (St.start cs_ref01_PutU.ins d) (retK env_ref01_PutU cs_ref01_PutU.ins cs_ref01_PutU.outs [(2, none)] cs_ref01_PutU.pan K Kp) = cs_ref01_PutU.fn d K Kp := by kernel_rfl
  rw [this]; exact h
-- f17 trammel/trammelref21.Bytes
noncomputable def gam_ref21_Bytes : FuncId → List FuncId → Option CSpec
  | 38, [] => some cs_ref21_right
  | 39, [] => some cs_ref01_PutU
  | _, _ => none
noncomputable def fs_ref21_Bytes : Nat → Bool
  | 9 => true
  | _ => false
noncomputable def lv_ref21_Bytes : Nat → Option (List Nat)
  | 0 => some [0]
  | 1 => some [0]
  | 2 => some [0, 4]
  | 3 => some [0, 4, 5]
  | 4 => some [0, 4, 5, 6]
  | 5 => some [0, 4, 5, 6]
  | 6 => some [0, 4, 5, 6]
  | 7 => some [0, 4, 5, 6]
  | 8 => some [0, 4, 5, 6]
  | 9 => some [0, 4, 5, 6, 7]
  | 10 => some [0, 4, 5, 6, 7]
  | 11 => some [0, 4, 5, 6, 7]
  | 12 => some [0, 4, 5, 6, 7]
  | 13 => some [0, 4, 5, 6, 7]
  | 14 => some [0, 4, 5, 6, 7, 8]
  | 15 => some [0, 4, 5, 6, 7, 8]
  | 16 => some [0, 4, 5, 6, 7, 8]
  | 17 => some [0, 4, 5, 6, 7, 8, 9]
  | 18 => some []
  | 19 => some [0, 4, 5, 6, 7, 8, 9]
  | 20 => some [4, 5]
  | 21 => some [4, 5, 10]
  | 22 => some [4, 5, 10, 11]
  | 23 => some [4, 5, 10, 11]
  | 24 => some [4, 5, 10, 11]
  | 25 => some [5, 10]
  | 26 => some []
  | 27 => some [10]
  | _ => none
noncomputable def env_ref21_Bytes : Env := { ty := envTy, eq := envEq, gam := gam_ref21_Bytes, n := Try.f17.ntmps, fs := fs_ref21_Bytes, lv := lv_ref21_Bytes }
theorem gamOk_ref21_Bytes : EnvFn Try.prog env_ref21_Bytes := by
  intro f gs c h
  unfold env_ref21_Bytes gam_ref21_Bytes at h
  simp only at h
  split at h <;> first | (cases h; done) | (cases h; exact h_ref21_right) | (cases h; exact h_ref01_PutU)
structure X_ref21_Bytes_14 where
  f0 : List ((List (List (((Int) × (Int) × Unit) × ((Int) × (Int) × Unit) × Unit))) × Unit)
  f4 : List (Int)
  f5 : Bool
  f6 : Int
  f7 : Int
  f8 : Int

noncomputable def B_ref21_Bytes_14 {R : Type} (k_ret : (List (Int)) → Int → Option R) (k_exit_4 : (List ((List (List (((Int) × (Int) × Unit) × ((Int) × (Int) × Unit) × Unit))) × Unit)) → (List (Int)) → Bool → Int → Int → Option R) (rec : X_ref21_Bytes_14 → Option R) (x : X_ref21_Bytes_14) : Option R :=
  cond (inB x.f6 (List.length x.f0))
  (let v1 := List.getD x.f0 x.f6.toNat (([] : List (List (((Int) × (Int) × Unit) × ((Int) × (Int) × Unit) × Unit))), ())
  cond (inB x.f7 (List.length v1.1))
  (let v2 := List.getD v1.1 x.f7.toNat ([] : List (((Int) × (Int) × Unit) × ((Int) × (Int) × Unit) × Unit))
  let v3 := ((List.length v2 : Nat) : Int)
  let v4 := decide (x.f8 < v3)
  cond v4
  (cond (inB x.f6 (List.length x.f0))
  (let v5 := List.getD x.f0 x.f6.toNat (([] : List (List (((Int) × (Int) × Unit) × ((Int) × (Int) × Unit) × Unit))), ())
  cond (inB x.f7 (List.length v5.1))
  (let v6 := List.getD v5.1 x.f7.toNat ([] : List (((Int) × (Int) × Unit) × ((Int) × (Int) × Unit) × Unit))
  cond (inB x.f8 (List.length v6))
  (let v7 := List.getD v6 x.f8.toNat (((0 : Int), ((0 : Int), ())), (((0 : Int), ((0 : Int), ())), ()))
  p_ref21_right v7 fun r8 =>
  let v9 := !r8
  cond v9
  (k_ret ([] : List (Int)) (2 : Int))
  (let v10 := IntKind.u64.wrap v7.2.1.1
  let v11 := List.set (List.set (List.set (List.set (List.replicate 4 (0 : Int)) 0 v7.1.1) 1 v7.1.2.1) 2 v10) 3 v7.2.1.2.1
  cond (decide (List.length x.f4 + List.length v11 ≤ most))
  (let v12 := x.f4 ++ v11
  let v13 := IntKind.i64.wrap (x.f8 + (1 : Int))
  rec ⟨x.f0, v12, x.f5, x.f6, x.f7, v13⟩) none)) none) none) none)
  (k_exit_4 x.f0 x.f4 x.f5 x.f6 x.f7)) none) none
noncomputable def S_ref21_Bytes_14 (x : X_ref21_Bytes_14) : St := St.ofList [(0, (.v (.sl 89 (.pair (.sl 86 (.sl 85 (.pair (.pair (.int .u64) (.pair (.int .u64) .unit)) (.pair (.pair (.int .i64) (.pair (.int .u64) .unit)) .unit)))) .unit)) .s x.f0)), (4, (.v (.sl 75 (.int .u64)) (.o .s) x.f4)), (5, (.v .bool .s x.f5)), (6, (.v (.int .i64) .s x.f6)), (7, (.v (.int .i64) .s x.f7)), (8, (.v (.int .i64) .s x.f8))]
def out_ref21_Bytes_14 : Ex → List (Nat × Bool) | .ret => [(2, false), (3, false)] | .exit 4 => [(0, false), (4, false), (5, false), (6, false), (7, false)] | _ => []
noncomputable def fuel_ref21_Bytes_14 (x : X_ref21_Bytes_14) : Nat := fuel64
noncomputable def c_ref21_Bytes_14 : Code := match loopAt 14 (body Try.f17.body) with | some c => c | none => .skip
structure X_ref21_Bytes_9 where
  f0 : List ((List (List (((Int) × (Int) × Unit) × ((Int) × (Int) × Unit) × Unit))) × Unit)
  f4 : List (Int)
  f5 : Bool
  f6 : Int
  f7 : Int

noncomputable def B_ref21_Bytes_9 {R : Type} (k_ret : (List (Int)) → Int → Option R) (k_exit_2 : (List ((List (List (((Int) × (Int) × Unit) × ((Int) × (Int) × Unit) × Unit))) × Unit)) → (List (Int)) → Bool → Int → Option R) (rec : X_ref21_Bytes_9 → Option R) (x : X_ref21_Bytes_9) : Option R :=
  cond (inB x.f6 (List.length x.f0))
  (let v1 := List.getD x.f0 x.f6.toNat (([] : List (List (((Int) × (Int) × Unit) × ((Int) × (Int) × Unit) × Unit))), ())
  let v2 := ((List.length v1.1 : Nat) : Int)
  let v3 := decide (x.f7 < v2)
  cond v3
  (cond (inB x.f6 (List.length x.f0))
  (let v4 := List.getD x.f0 x.f6.toNat (([] : List (List (((Int) × (Int) × Unit) × ((Int) × (Int) × Unit) × Unit))), ())
  cond (inB x.f7 (List.length v4.1))
  (let v5 := List.getD v4.1 x.f7.toNat ([] : List (((Int) × (Int) × Unit) × ((Int) × (Int) × Unit) × Unit))
  let v6 := ((List.length v5 : Nat) : Int)
  let v7 := IntKind.u64.wrap v6
  let v8 := List.set (List.replicate 1 (0 : Int)) 0 v7
  cond (decide (List.length x.f4 + List.length v8 ≤ most))
  (let v9 := x.f4 ++ v8
  cond x.f5
  (loopN (B_ref21_Bytes_14 (fun w10 w11 =>
  k_ret w10 w11) (fun w12 w13 w14 w15 w16 =>
  let v17 := IntKind.i64.wrap (w16 + (1 : Int))
  rec ⟨w12, w13, w14, w15, v17⟩)) (fuel_ref21_Bytes_14 ⟨x.f0, v9, true, x.f6, x.f7, (0 : Int)⟩) ⟨x.f0, v9, true, x.f6, x.f7, (0 : Int)⟩)
  (cond (inB x.f6 (List.length x.f0))
  (let v18 := List.getD x.f0 x.f6.toNat (([] : List (List (((Int) × (Int) × Unit) × ((Int) × (Int) × Unit) × Unit))), ())
  cond (inB x.f7 (List.length v18.1))
  (let v19 := List.getD v18.1 x.f7.toNat ([] : List (((Int) × (Int) × Unit) × ((Int) × (Int) × Unit) × Unit))
  let v20 := ((List.length v19 : Nat) : Int)
  let v21 := decide (v20 > (64 : Int))
  loopN (B_ref21_Bytes_14 (fun w22 w23 =>
  k_ret w22 w23) (fun w24 w25 w26 w27 w28 =>
  let v29 := IntKind.i64.wrap (w28 + (1 : Int))
  rec ⟨w24, w25, w26, w27, v29⟩)) (fuel_ref21_Bytes_14 ⟨x.f0, v9, v21, x.f6, x.f7, (0 : Int)⟩) ⟨x.f0, v9, v21, x.f6, x.f7, (0 : Int)⟩) none) none)) none) none) none)
  (k_exit_2 x.f0 x.f4 x.f5 x.f6)) none
noncomputable def S_ref21_Bytes_9 (x : X_ref21_Bytes_9) : St := St.ofList [(0, (.v (.sl 89 (.pair (.sl 86 (.sl 85 (.pair (.pair (.int .u64) (.pair (.int .u64) .unit)) (.pair (.pair (.int .i64) (.pair (.int .u64) .unit)) .unit)))) .unit)) .s x.f0)), (4, (.v (.sl 75 (.int .u64)) (.o .s) x.f4)), (5, (.v .bool .s x.f5)), (6, (.v (.int .i64) .s x.f6)), (7, (.v (.int .i64) .s x.f7))]
def out_ref21_Bytes_9 : Ex → List (Nat × Bool) | .ret => [(2, false), (3, false)] | .exit 2 => [(0, false), (4, false), (5, false), (6, false)] | _ => []
noncomputable def fuel_ref21_Bytes_9 (x : X_ref21_Bytes_9) : Nat := fuel64
noncomputable def c_ref21_Bytes_9 : Code := match loopAt 9 (body Try.f17.body) with | some c => c | none => .skip
structure X_ref21_Bytes_4 where
  f0 : List ((List (List (((Int) × (Int) × Unit) × ((Int) × (Int) × Unit) × Unit))) × Unit)
  f4 : List (Int)
  f5 : Bool
  f6 : Int

noncomputable def B_ref21_Bytes_4 {R : Type} (k_ret : (List (Int)) → Int → Option R) (k_exit_0 : (List (Int)) → Bool → Option R) (rec : X_ref21_Bytes_4 → Option R) (x : X_ref21_Bytes_4) : Option R :=
  let v1 := ((List.length x.f0 : Nat) : Int)
  let v2 := decide (x.f6 < v1)
  cond v2
  (cond (inB x.f6 (List.length x.f0))
  (let v3 := List.getD x.f0 x.f6.toNat (([] : List (List (((Int) × (Int) × Unit) × ((Int) × (Int) × Unit) × Unit))), ())
  let v4 := ((List.length v3.1 : Nat) : Int)
  let v5 := IntKind.u64.wrap v4
  let v6 := List.set (List.replicate 1 (0 : Int)) 0 v5
  cond (decide (List.length x.f4 + List.length v6 ≤ most))
  (let v7 := x.f4 ++ v6
  cond x.f5
  (loopN (B_ref21_Bytes_9 (fun w8 w9 =>
  k_ret w8 w9) (fun w10 w11 w12 w13 =>
  let v14 := IntKind.i64.wrap (w13 + (1 : Int))
  rec ⟨w10, w11, w12, v14⟩)) (fuel_ref21_Bytes_9 ⟨x.f0, v7, true, x.f6, (0 : Int)⟩) ⟨x.f0, v7, true, x.f6, (0 : Int)⟩)
  (cond (inB x.f6 (List.length x.f0))
  (let v15 := List.getD x.f0 x.f6.toNat (([] : List (List (((Int) × (Int) × Unit) × ((Int) × (Int) × Unit) × Unit))), ())
  let v16 := ((List.length v15.1 : Nat) : Int)
  let v17 := decide (v16 > (2000 : Int))
  loopN (B_ref21_Bytes_9 (fun w18 w19 =>
  k_ret w18 w19) (fun w20 w21 w22 w23 =>
  let v24 := IntKind.i64.wrap (w23 + (1 : Int))
  rec ⟨w20, w21, w22, v24⟩)) (fuel_ref21_Bytes_9 ⟨x.f0, v7, v17, x.f6, (0 : Int)⟩) ⟨x.f0, v7, v17, x.f6, (0 : Int)⟩) none)) none) none)
  (k_exit_0 x.f4 x.f5)
noncomputable def S_ref21_Bytes_4 (x : X_ref21_Bytes_4) : St := St.ofList [(0, (.v (.sl 89 (.pair (.sl 86 (.sl 85 (.pair (.pair (.int .u64) (.pair (.int .u64) .unit)) (.pair (.pair (.int .i64) (.pair (.int .u64) .unit)) .unit)))) .unit)) .s x.f0)), (4, (.v (.sl 75 (.int .u64)) (.o .s) x.f4)), (5, (.v .bool .s x.f5)), (6, (.v (.int .i64) .s x.f6))]
def out_ref21_Bytes_4 : Ex → List (Nat × Bool) | .ret => [(2, false), (3, false)] | .exit 0 => [(4, false), (5, false)] | _ => []
noncomputable def fuel_ref21_Bytes_4 (x : X_ref21_Bytes_4) : Nat := fuel64
noncomputable def c_ref21_Bytes_4 : Code := match loopAt 4 (body Try.f17.body) with | some c => c | none => .skip
structure X_ref21_Bytes_22 where
  f4 : List (Int)
  f5 : Bool
  f10 : List (Int)
  f11 : Int

noncomputable def B_ref21_Bytes_22 {R : Type} (k_exit_6 : Bool → (List (Int)) → Option R) (rec : X_ref21_Bytes_22 → Option R) (x : X_ref21_Bytes_22) : Option R :=
  let v1 := ((List.length x.f4 : Nat) : Int)
  let v2 := decide (x.f11 < v1)
  cond v2
  (cond (inB x.f11 (List.length x.f4))
  (let v3 := (List.getD x.f4 x.f11.toNat (0 : Int))
  p_ref01_PutU v3 fun r4 =>
  cond (decide (List.length x.f10 + List.length r4 ≤ most))
  (let v5 := x.f10 ++ r4
  let v6 := IntKind.i64.wrap (x.f11 + (1 : Int))
  rec ⟨x.f4, x.f5, v5, v6⟩) none) none)
  (k_exit_6 x.f5 x.f10)
noncomputable def S_ref21_Bytes_22 (x : X_ref21_Bytes_22) : St := St.ofList [(4, (.v (.sl 75 (.int .u64)) (.o .s) x.f4)), (5, (.v .bool .s x.f5)), (10, (.v (.sl 5 (.int .u8)) (.o .s) x.f10)), (11, (.v (.int .i64) .s x.f11))]
def out_ref21_Bytes_22 : Ex → List (Nat × Bool) | .exit 6 => [(5, false), (10, false)] | _ => []
noncomputable def fuel_ref21_Bytes_22 (x : X_ref21_Bytes_22) : Nat := fuel64
noncomputable def c_ref21_Bytes_22 : Code := match loopAt 22 (body Try.f17.body) with | some c => c | none => .skip
noncomputable def lp_ref21_Bytes : Loops := fun z i R st K => match z, i with
  | false, 14 => coerce [(0, false), (4, false), (5, false), (6, false), (7, false), (8, false)] st (fun st => mV (.sl 89 (.pair (.sl 86 (.sl 85 (.pair (.pair (.int .u64) (.pair (.int .u64) .unit)) (.pair (.pair (.int .i64) (.pair (.int .u64) .unit)) .unit)))) .unit)) .s (st 0) fun y0 => mV (.sl 75 (.int .u64)) (.o .s) (st 4) fun y4 => mV .bool .s (st 5) fun y5 => mV (.int .i64) .s (st 6) fun y6 => mV (.int .i64) .s (st 7) fun y7 => mV (.int .i64) .s (st 8) fun y8 => loopN (B_ref21_Bytes_14 (fun e2 e3 => K .ret (St.ofList [(2, (.v (.sl 5 (.int .u8)) (.o .s) e2)), (3, (.v (.int .i64) .s e3))])) (fun e0 e4 e5 e6 e7 => K (.exit 4) (St.ofList [(0, (.v (.sl 89 (.pair (.sl 86 (.sl 85 (.pair (.pair (.int .u64) (.pair (.int .u64) .unit)) (.pair (.pair (.int .i64) (.pair (.int .u64) .unit)) .unit)))) .unit)) .s e0)), (4, (.v (.sl 75 (.int .u64)) (.o .s) e4)), (5, (.v .bool .s e5)), (6, (.v (.int .i64) .s e6)), (7, (.v (.int .i64) .s e7))]))) (fuel_ref21_Bytes_14 ⟨y0, y4, y5, y6, y7, y8⟩) ⟨y0, y4, y5, y6, y7, y8⟩)
  | false, 9 => coerce [(0, false), (4, false), (5, false), (6, false), (7, false)] st (fun st => mV (.sl 89 (.pair (.sl 86 (.sl 85 (.pair (.pair (.int .u64) (.pair (.int .u64) .unit)) (.pair (.pair (.int .i64) (.pair (.int .u64) .unit)) .unit)))) .unit)) .s (st 0) fun y0 => mV (.sl 75 (.int .u64)) (.o .s) (st 4) fun y4 => mV .bool .s (st 5) fun y5 => mV (.int .i64) .s (st 6) fun y6 => mV (.int .i64) .s (st 7) fun y7 => loopN (B_ref21_Bytes_9 (fun e2 e3 => K .ret (St.ofList [(2, (.v (.sl 5 (.int .u8)) (.o .s) e2)), (3, (.v (.int .i64) .s e3))])) (fun e0 e4 e5 e6 => K (.exit 2) (St.ofList [(0, (.v (.sl 89 (.pair (.sl 86 (.sl 85 (.pair (.pair (.int .u64) (.pair (.int .u64) .unit)) (.pair (.pair (.int .i64) (.pair (.int .u64) .unit)) .unit)))) .unit)) .s e0)), (4, (.v (.sl 75 (.int .u64)) (.o .s) e4)), (5, (.v .bool .s e5)), (6, (.v (.int .i64) .s e6))]))) (fuel_ref21_Bytes_9 ⟨y0, y4, y5, y6, y7⟩) ⟨y0, y4, y5, y6, y7⟩)
  | false, 4 => coerce [(0, false), (4, false), (5, false), (6, false)] st (fun st => mV (.sl 89 (.pair (.sl 86 (.sl 85 (.pair (.pair (.int .u64) (.pair (.int .u64) .unit)) (.pair (.pair (.int .i64) (.pair (.int .u64) .unit)) .unit)))) .unit)) .s (st 0) fun y0 => mV (.sl 75 (.int .u64)) (.o .s) (st 4) fun y4 => mV .bool .s (st 5) fun y5 => mV (.int .i64) .s (st 6) fun y6 => loopN (B_ref21_Bytes_4 (fun e2 e3 => K .ret (St.ofList [(2, (.v (.sl 5 (.int .u8)) (.o .s) e2)), (3, (.v (.int .i64) .s e3))])) (fun e4 e5 => K (.exit 0) (St.ofList [(4, (.v (.sl 75 (.int .u64)) (.o .s) e4)), (5, (.v .bool .s e5))]))) (fuel_ref21_Bytes_4 ⟨y0, y4, y5, y6⟩) ⟨y0, y4, y5, y6⟩)
  | false, 22 => coerce [(4, false), (5, false), (10, false), (11, false)] st (fun st => mV (.sl 75 (.int .u64)) (.o .s) (st 4) fun y4 => mV .bool .s (st 5) fun y5 => mV (.sl 5 (.int .u8)) (.o .s) (st 10) fun y10 => mV (.int .i64) .s (st 11) fun y11 => loopN (B_ref21_Bytes_22 (fun e5 e10 => K (.exit 6) (St.ofList [(5, (.v .bool .s e5)), (10, (.v (.sl 5 (.int .u8)) (.o .s) e10))]))) (fuel_ref21_Bytes_22 ⟨y4, y5, y10, y11⟩) ⟨y4, y5, y10, y11⟩)
  | _, _ => none
theorem step_ref21_Bytes_14 (R : Type) (K : Ex → St → Option R) (rec : St → Option R) (x : X_ref21_Bytes_14) : evC env_ref21_Bytes lp_ref21_Bytes inl0 c_ref21_Bytes_14 (S_ref21_Bytes_14 x) (fun e st => match e with | .normal => coerce [(0, false), (4, false), (5, false), (6, false), (7, false), (8, false)] st rec | e => coerce (out_ref21_Bytes_14 e) st (K e)) = B_ref21_Bytes_14 (fun e2 e3 => K .ret (St.ofList [(2, (.v (.sl 5 (.int .u8)) (.o .s) e2)), (3, (.v (.int .i64) .s e3))])) (fun e0 e4 e5 e6 e7 => K (.exit 4) (St.ofList [(0, (.v (.sl 89 (.pair (.sl 86 (.sl 85 (.pair (.pair (.int .u64) (.pair (.int .u64) .unit)) (.pair (.pair (.int .i64) (.pair (.int .u64) .unit)) .unit)))) .unit)) .s e0)), (4, (.v (.sl 75 (.int .u64)) (.o .s) e4)), (5, (.v .bool .s e5)), (6, (.v (.int .i64) .s e6)), (7, (.v (.int .i64) .s e7))])) (fun x => rec (S_ref21_Bytes_14 x)) x := by kernel_rfl
theorem ok_ref21_Bytes_14 : LoopOk env_ref21_Bytes lp_ref21_Bytes inl0 c_ref21_Bytes_14 := by
  refine loopOk_of (hd := [(0, false), (4, false), (5, false), (6, false), (7, false), (8, false)]) (out := out_ref21_Bytes_14) (S := S_ref21_Bytes_14) (fun _ K => B_ref21_Bytes_14 (fun e2 e3 => K .ret (St.ofList [(2, (.v (.sl 5 (.int .u8)) (.o .s) e2)), (3, (.v (.int .i64) .s e3))])) (fun e0 e4 e5 e6 e7 => K (.exit 4) (St.ofList [(0, (.v (.sl 89 (.pair (.sl 86 (.sl 85 (.pair (.pair (.int .u64) (.pair (.int .u64) .unit)) (.pair (.pair (.int .i64) (.pair (.int .u64) .unit)) .unit)))) .unit)) .s e0)), (4, (.v (.sl 75 (.int .u64)) (.o .s) e4)), (5, (.v .bool .s e5)), (6, (.v (.int .i64) .s e6)), (7, (.v (.int .i64) .s e7))]))) fuel_ref21_Bytes_14 14 step_ref21_Bytes_14 (by kernel_rfl) (fun R K => fun st => mV (.sl 89 (.pair (.sl 86 (.sl 85 (.pair (.pair (.int .u64) (.pair (.int .u64) .unit)) (.pair (.pair (.int .i64) (.pair (.int .u64) .unit)) .unit)))) .unit)) .s (st 0) fun y0 => mV (.sl 75 (.int .u64)) (.o .s) (st 4) fun y4 => mV .bool .s (st 5) fun y5 => mV (.int .i64) .s (st 6) fun y6 => mV (.int .i64) .s (st 7) fun y7 => mV (.int .i64) .s (st 8) fun y8 => loopN (B_ref21_Bytes_14 (fun e2 e3 => K .ret (St.ofList [(2, (.v (.sl 5 (.int .u8)) (.o .s) e2)), (3, (.v (.int .i64) .s e3))])) (fun e0 e4 e5 e6 e7 => K (.exit 4) (St.ofList [(0, (.v (.sl 89 (.pair (.sl 86 (.sl 85 (.pair (.pair (.int .u64) (.pair (.int .u64) .unit)) (.pair (.pair (.int .i64) (.pair (.int .u64) .unit)) .unit)))) .unit)) .s e0)), (4, (.v (.sl 75 (.int .u64)) (.o .s) e4)), (5, (.v .bool .s e5)), (6, (.v (.int .i64) .s e6)), (7, (.v (.int .i64) .s e7))]))) (fuel_ref21_Bytes_14 ⟨y0, y4, y5, y6, y7, y8⟩) ⟨y0, y4, y5, y6, y7, y8⟩) (fun R st K => by kernel_rfl) ?_
  intro R K st r h
  obtain ⟨y0, hy0, h⟩ := mV_inv h
  obtain ⟨y4, hy4, h⟩ := mV_inv h
  obtain ⟨y5, hy5, h⟩ := mV_inv h
  obtain ⟨y6, hy6, h⟩ := mV_inv h
  obtain ⟨y7, hy7, h⟩ := mV_inv h
  obtain ⟨y8, hy8, h⟩ := mV_inv h
  exact ⟨⟨y0, y4, y5, y6, y7, y8⟩, only_of_list (ofList_cons hy0 (ofList_cons hy4 (ofList_cons hy5 (ofList_cons hy6 (ofList_cons hy7 (ofList_cons hy8 rfl)))))), h⟩
theorem step_ref21_Bytes_9 (R : Type) (K : Ex → St → Option R) (rec : St → Option R) (x : X_ref21_Bytes_9) : evC env_ref21_Bytes lp_ref21_Bytes inl0 c_ref21_Bytes_9 (S_ref21_Bytes_9 x) (fun e st => match e with | .normal => coerce [(0, false), (4, false), (5, false), (6, false), (7, false)] st rec | e => coerce (out_ref21_Bytes_9 e) st (K e)) = B_ref21_Bytes_9 (fun e2 e3 => K .ret (St.ofList [(2, (.v (.sl 5 (.int .u8)) (.o .s) e2)), (3, (.v (.int .i64) .s e3))])) (fun e0 e4 e5 e6 => K (.exit 2) (St.ofList [(0, (.v (.sl 89 (.pair (.sl 86 (.sl 85 (.pair (.pair (.int .u64) (.pair (.int .u64) .unit)) (.pair (.pair (.int .i64) (.pair (.int .u64) .unit)) .unit)))) .unit)) .s e0)), (4, (.v (.sl 75 (.int .u64)) (.o .s) e4)), (5, (.v .bool .s e5)), (6, (.v (.int .i64) .s e6))])) (fun x => rec (S_ref21_Bytes_9 x)) x := by kernel_rfl
theorem ok_ref21_Bytes_9 : LoopOk env_ref21_Bytes lp_ref21_Bytes inl0 c_ref21_Bytes_9 := by
  refine loopOk_of (hd := [(0, false), (4, false), (5, false), (6, false), (7, false)]) (out := out_ref21_Bytes_9) (S := S_ref21_Bytes_9) (fun _ K => B_ref21_Bytes_9 (fun e2 e3 => K .ret (St.ofList [(2, (.v (.sl 5 (.int .u8)) (.o .s) e2)), (3, (.v (.int .i64) .s e3))])) (fun e0 e4 e5 e6 => K (.exit 2) (St.ofList [(0, (.v (.sl 89 (.pair (.sl 86 (.sl 85 (.pair (.pair (.int .u64) (.pair (.int .u64) .unit)) (.pair (.pair (.int .i64) (.pair (.int .u64) .unit)) .unit)))) .unit)) .s e0)), (4, (.v (.sl 75 (.int .u64)) (.o .s) e4)), (5, (.v .bool .s e5)), (6, (.v (.int .i64) .s e6))]))) fuel_ref21_Bytes_9 9 step_ref21_Bytes_9 (by kernel_rfl) (fun R K => fun st => mV (.sl 89 (.pair (.sl 86 (.sl 85 (.pair (.pair (.int .u64) (.pair (.int .u64) .unit)) (.pair (.pair (.int .i64) (.pair (.int .u64) .unit)) .unit)))) .unit)) .s (st 0) fun y0 => mV (.sl 75 (.int .u64)) (.o .s) (st 4) fun y4 => mV .bool .s (st 5) fun y5 => mV (.int .i64) .s (st 6) fun y6 => mV (.int .i64) .s (st 7) fun y7 => loopN (B_ref21_Bytes_9 (fun e2 e3 => K .ret (St.ofList [(2, (.v (.sl 5 (.int .u8)) (.o .s) e2)), (3, (.v (.int .i64) .s e3))])) (fun e0 e4 e5 e6 => K (.exit 2) (St.ofList [(0, (.v (.sl 89 (.pair (.sl 86 (.sl 85 (.pair (.pair (.int .u64) (.pair (.int .u64) .unit)) (.pair (.pair (.int .i64) (.pair (.int .u64) .unit)) .unit)))) .unit)) .s e0)), (4, (.v (.sl 75 (.int .u64)) (.o .s) e4)), (5, (.v .bool .s e5)), (6, (.v (.int .i64) .s e6))]))) (fuel_ref21_Bytes_9 ⟨y0, y4, y5, y6, y7⟩) ⟨y0, y4, y5, y6, y7⟩) (fun R st K => by kernel_rfl) ?_
  intro R K st r h
  obtain ⟨y0, hy0, h⟩ := mV_inv h
  obtain ⟨y4, hy4, h⟩ := mV_inv h
  obtain ⟨y5, hy5, h⟩ := mV_inv h
  obtain ⟨y6, hy6, h⟩ := mV_inv h
  obtain ⟨y7, hy7, h⟩ := mV_inv h
  exact ⟨⟨y0, y4, y5, y6, y7⟩, only_of_list (ofList_cons hy0 (ofList_cons hy4 (ofList_cons hy5 (ofList_cons hy6 (ofList_cons hy7 rfl))))), h⟩
theorem step_ref21_Bytes_4 (R : Type) (K : Ex → St → Option R) (rec : St → Option R) (x : X_ref21_Bytes_4) : evC env_ref21_Bytes lp_ref21_Bytes inl0 c_ref21_Bytes_4 (S_ref21_Bytes_4 x) (fun e st => match e with | .normal => coerce [(0, false), (4, false), (5, false), (6, false)] st rec | e => coerce (out_ref21_Bytes_4 e) st (K e)) = B_ref21_Bytes_4 (fun e2 e3 => K .ret (St.ofList [(2, (.v (.sl 5 (.int .u8)) (.o .s) e2)), (3, (.v (.int .i64) .s e3))])) (fun e4 e5 => K (.exit 0) (St.ofList [(4, (.v (.sl 75 (.int .u64)) (.o .s) e4)), (5, (.v .bool .s e5))])) (fun x => rec (S_ref21_Bytes_4 x)) x := by kernel_rfl
theorem ok_ref21_Bytes_4 : LoopOk env_ref21_Bytes lp_ref21_Bytes inl0 c_ref21_Bytes_4 := by
  refine loopOk_of (hd := [(0, false), (4, false), (5, false), (6, false)]) (out := out_ref21_Bytes_4) (S := S_ref21_Bytes_4) (fun _ K => B_ref21_Bytes_4 (fun e2 e3 => K .ret (St.ofList [(2, (.v (.sl 5 (.int .u8)) (.o .s) e2)), (3, (.v (.int .i64) .s e3))])) (fun e4 e5 => K (.exit 0) (St.ofList [(4, (.v (.sl 75 (.int .u64)) (.o .s) e4)), (5, (.v .bool .s e5))]))) fuel_ref21_Bytes_4 4 step_ref21_Bytes_4 (by kernel_rfl) (fun R K => fun st => mV (.sl 89 (.pair (.sl 86 (.sl 85 (.pair (.pair (.int .u64) (.pair (.int .u64) .unit)) (.pair (.pair (.int .i64) (.pair (.int .u64) .unit)) .unit)))) .unit)) .s (st 0) fun y0 => mV (.sl 75 (.int .u64)) (.o .s) (st 4) fun y4 => mV .bool .s (st 5) fun y5 => mV (.int .i64) .s (st 6) fun y6 => loopN (B_ref21_Bytes_4 (fun e2 e3 => K .ret (St.ofList [(2, (.v (.sl 5 (.int .u8)) (.o .s) e2)), (3, (.v (.int .i64) .s e3))])) (fun e4 e5 => K (.exit 0) (St.ofList [(4, (.v (.sl 75 (.int .u64)) (.o .s) e4)), (5, (.v .bool .s e5))]))) (fuel_ref21_Bytes_4 ⟨y0, y4, y5, y6⟩) ⟨y0, y4, y5, y6⟩) (fun R st K => by kernel_rfl) ?_
  intro R K st r h
  obtain ⟨y0, hy0, h⟩ := mV_inv h
  obtain ⟨y4, hy4, h⟩ := mV_inv h
  obtain ⟨y5, hy5, h⟩ := mV_inv h
  obtain ⟨y6, hy6, h⟩ := mV_inv h
  exact ⟨⟨y0, y4, y5, y6⟩, only_of_list (ofList_cons hy0 (ofList_cons hy4 (ofList_cons hy5 (ofList_cons hy6 rfl)))), h⟩
theorem step_ref21_Bytes_22 (R : Type) (K : Ex → St → Option R) (rec : St → Option R) (x : X_ref21_Bytes_22) : evC env_ref21_Bytes lp_ref21_Bytes inl0 c_ref21_Bytes_22 (S_ref21_Bytes_22 x) (fun e st => match e with | .normal => coerce [(4, false), (5, false), (10, false), (11, false)] st rec | e => coerce (out_ref21_Bytes_22 e) st (K e)) = B_ref21_Bytes_22 (fun e5 e10 => K (.exit 6) (St.ofList [(5, (.v .bool .s e5)), (10, (.v (.sl 5 (.int .u8)) (.o .s) e10))])) (fun x => rec (S_ref21_Bytes_22 x)) x := by kernel_rfl
theorem ok_ref21_Bytes_22 : LoopOk env_ref21_Bytes lp_ref21_Bytes inl0 c_ref21_Bytes_22 := by
  refine loopOk_of (hd := [(4, false), (5, false), (10, false), (11, false)]) (out := out_ref21_Bytes_22) (S := S_ref21_Bytes_22) (fun _ K => B_ref21_Bytes_22 (fun e5 e10 => K (.exit 6) (St.ofList [(5, (.v .bool .s e5)), (10, (.v (.sl 5 (.int .u8)) (.o .s) e10))]))) fuel_ref21_Bytes_22 22 step_ref21_Bytes_22 (by kernel_rfl) (fun R K => fun st => mV (.sl 75 (.int .u64)) (.o .s) (st 4) fun y4 => mV .bool .s (st 5) fun y5 => mV (.sl 5 (.int .u8)) (.o .s) (st 10) fun y10 => mV (.int .i64) .s (st 11) fun y11 => loopN (B_ref21_Bytes_22 (fun e5 e10 => K (.exit 6) (St.ofList [(5, (.v .bool .s e5)), (10, (.v (.sl 5 (.int .u8)) (.o .s) e10))]))) (fuel_ref21_Bytes_22 ⟨y4, y5, y10, y11⟩) ⟨y4, y5, y10, y11⟩) (fun R st K => by kernel_rfl) ?_
  intro R K st r h
  obtain ⟨y4, hy4, h⟩ := mV_inv h
  obtain ⟨y5, hy5, h⟩ := mV_inv h
  obtain ⟨y10, hy10, h⟩ := mV_inv h
  obtain ⟨y11, hy11, h⟩ := mV_inv h
  exact ⟨⟨y4, y5, y10, y11⟩, only_of_list (ofList_cons hy4 (ofList_cons hy5 (ofList_cons hy10 (ofList_cons hy11 rfl)))), h⟩
theorem loops_ref21_Bytes : LoopsOk env_ref21_Bytes lp_ref21_Bytes inl0 (body Try.f17.body) := by
  refine loopsOk_of (fun c hc => ?_) (fun c hc => ?_)
  · rw [show loopsL (body Try.f17.body) = [c_ref21_Bytes_4, c_ref21_Bytes_9, c_ref21_Bytes_14, c_ref21_Bytes_22] by kernel_rfl] at hc
    simp only [List.mem_cons, List.not_mem_nil, or_false] at hc
    rcases hc with rfl | rfl | rfl | rfl
    · exact ok_ref21_Bytes_4
    · exact ok_ref21_Bytes_9
    · exact ok_ref21_Bytes_14
    · exact ok_ref21_Bytes_22
  · rw [show joinsL env_ref21_Bytes (body Try.f17.body) = [] by kernel_rfl] at hc; cases hc
noncomputable def p_ref21_Bytes {R : Type} (a0 : List ((List (List (((Int) × (Int) × Unit) × ((Int) × (Int) × Unit) × Unit))) × Unit)) (K : (List (Int)) → Int → Option R) : Option R :=
  let v1 := ((List.length a0 : Nat) : Int)
  let v2 := IntKind.u64.wrap v1
  let v3 := List.set (List.replicate 1 (0 : Int)) 0 v2
  let v4 := ((List.length a0 : Nat) : Int)
  let v5 := decide (v4 > (64 : Int))
  loopN (B_ref21_Bytes_4 (fun w6 w7 =>
  K w6 w7) (fun w8 w9 =>
  loopN (B_ref21_Bytes_22 (fun w10 w11 =>
  cond w10
  (K ([] : List (Int)) (4 : Int))
  (let v12 := ((List.length w11 : Nat) : Int)
  let v13 := decide (v12 > (65536 : Int))
  cond v13
  (K ([] : List (Int)) (4 : Int))
  (K w11 (0 : Int))))) (fuel_ref21_Bytes_22 ⟨w8, w9, ([] : List (Int)), (0 : Int)⟩) ⟨w8, w9, ([] : List (Int)), (0 : Int)⟩)) (fuel_ref21_Bytes_4 ⟨a0, v3, v5, (0 : Int)⟩) ⟨a0, v3, v5, (0 : Int)⟩
noncomputable def cs_ref21_Bytes : CSpec := { ins := [(.val (.sl 89 (.pair (.sl 86 (.sl 85 (.pair (.pair (.int .u64) (.pair (.int .u64) .unit)) (.pair (.pair (.int .i64) (.pair (.int .u64) .unit)) .unit)))) .unit)) .s)], outs := [((.sl 5 (.int .u8)), (.o .s)), ((.int .i64), .s)], fn := fun (d : (List ((List (List (((Int) × (Int) × Unit) × ((Int) × (Int) × Unit) × Unit))) × Unit)) × Unit) K _ => p_ref21_Bytes d.1 (fun r0 r1 => K ((r0, r1, ()) : (List (Int)) × Int × Unit) ((()) : Unit)) }
theorem h_ref21_Bytes : Holds Try.prog 17 cs_ref21_Bytes := by
  refine holds_of (env := env_ref21_Bytes) (inl := inl0) (fn := Try.f17) (code := body Try.f17.body) (rs := [(2, none), (3, none)]) (lp := lp_ref21_Bytes) mixed ⟨envTyOk.ty, envTyOk.eq⟩ gamOk_ref21_Bytes inl0_ok Try.func17 (by kernel_rfl) (by kernel_rfl) (by kernel_rfl) (by kernel_rfl) (by kernel_rfl) loops_ref21_Bytes (by kernel_rfl) ?_
  intro d R K Kp res h
  have : evC env_ref21_Bytes lp_ref21_Bytes inl0 (body Try.f17.body) (St.start cs_ref21_Bytes.ins d) (retK env_ref21_Bytes cs_ref21_Bytes.ins cs_ref21_Bytes.outs [(2, none), (3, none)] cs_ref21_Bytes.pan K Kp) = cs_ref21_Bytes.fn d K Kp := by kernel_rfl
  rw [this]; exact h
-- f5 trammel/trammellaw21.CertPuts
noncomputable def gam_law21_CertPuts : FuncId → List FuncId → Option CSpec
  | 14, [] => some cs_law21_awake
  | 15, [] => some cs_ref21_Short
  | 16, [] => some cs_cert_Put
  | 17, [] => some cs_ref21_Bytes
  | 18, [] => some cs_ref01_Same
  | _, _ => none
noncomputable def env_law21_CertPuts : Env := { ty := envTy, eq := envEq, gam := gam_law21_CertPuts, n := Try.f5.ntmps }
theorem gamOk_law21_CertPuts : EnvFn Try.prog env_law21_CertPuts := by
  intro f gs c h
  unfold env_law21_CertPuts gam_law21_CertPuts at h
  simp only at h
  split at h <;> first | (cases h; done) | (cases h; exact h_law21_awake) | (cases h; exact h_ref21_Short) | (cases h; exact h_cert_Put) | (cases h; exact h_ref21_Bytes) | (cases h; exact h_ref01_Same)
noncomputable def p_law21_CertPuts {R : Type} (a0 : List ((List (List (((Int) × (Int) × Unit) × ((Int) × (Int) × Unit) × Unit))) × Unit)) (K : Bool → Option R) : Option R :=
  p_law21_awake fun r1 =>
  let v2 := !r1
  cond v2
  (K false)
  (p_ref21_Short a0 fun r3 =>
  let v4 := !r3
  cond v4
  (K true)
  (p_cert_Put a0 fun r5 r6 =>
  p_ref21_Bytes a0 fun r7 r8 =>
  let v9 := r6 == r8
  cond v9
  (p_ref01_Same r5 r7 fun r10 =>
  K r10)
  (K false)))
noncomputable def cs_law21_CertPuts : CSpec := { ins := [(.val (.sl 89 (.pair (.sl 86 (.sl 85 (.pair (.pair (.int .u64) (.pair (.int .u64) .unit)) (.pair (.pair (.int .i64) (.pair (.int .u64) .unit)) .unit)))) .unit)) .s)], outs := [(.bool, .s)], fn := fun (d : (List ((List (List (((Int) × (Int) × Unit) × ((Int) × (Int) × Unit) × Unit))) × Unit)) × Unit) K _ => p_law21_CertPuts d.1 (fun r0 => K ((r0, ()) : Bool × Unit) ((()) : Unit)) }
theorem h_law21_CertPuts : Holds Try.prog 5 cs_law21_CertPuts := by
  refine holds_of (env := env_law21_CertPuts) (inl := inl0) (fn := Try.f5) (code := body Try.f5.body) (rs := [(2, none)]) (lp := lp0) mixed ⟨envTyOk.ty, envTyOk.eq⟩ gamOk_law21_CertPuts inl0_ok Try.func5 (by kernel_rfl) (by kernel_rfl) (by kernel_rfl) (by kernel_rfl) (by kernel_rfl) (loopsOk_none (by kernel_rfl) (by kernel_rfl)) (by kernel_rfl) ?_
  intro d R K Kp res h
  have : evC env_law21_CertPuts lp0 inl0 (body Try.f5.body) (St.start cs_law21_CertPuts.ins d) (retK env_law21_CertPuts cs_law21_CertPuts.ins cs_law21_CertPuts.outs [(2, none)] cs_law21_CertPuts.pan K Kp) = cs_law21_CertPuts.fn d K Kp := by kernel_rfl
  rw [this]; exact h
-- f20 trammel/trammelref21.Same
noncomputable def lv_ref21_Same : Nat → Option (List Nat)
  | 0 => some [0, 1]
  | 1 => some [0, 1]
  | 2 => some []
  | 3 => some [0, 1]
  | 4 => some [0, 1, 5]
  | 5 => some [0, 1, 5]
  | 6 => some [0, 1, 5]
  | 7 => some []
  | 8 => some [0, 1, 5]
  | 9 => some [0, 1, 5, 6]
  | 10 => some [0, 1, 5, 6]
  | 11 => some [0, 1, 5, 6]
  | 12 => some [0, 1, 5, 6, 7, 8]
  | 13 => some []
  | 14 => some [0, 1, 5, 6, 7, 8]
  | 15 => some [0, 1, 5, 6, 7, 8, 9]
  | 16 => some [0, 1, 5, 6, 7, 8, 9]
  | 17 => some [0, 1, 5, 6, 7, 8, 9]
  | 18 => some []
  | 19 => some []
  | _ => none
noncomputable def env_ref21_Same : Env := { ty := envTy, eq := envEq, gam := noG, n := Try.f20.ntmps, lv := lv_ref21_Same }
structure X_ref21_Same_15 where
  f0 : List ((List (List (((Int) × (Int) × Unit) × ((Int) × (Int) × Unit) × Unit))) × Unit)
  f1 : List ((List (List (((Int) × (Int) × Unit) × ((Int) × (Int) × Unit) × Unit))) × Unit)
  f5 : Int
  f6 : Int
  f7 : List (((Int) × (Int) × Unit) × ((Int) × (Int) × Unit) × Unit)
  f8 : List (((Int) × (Int) × Unit) × ((Int) × (Int) × Unit) × Unit)
  f9 : Int

noncomputable def B_ref21_Same_15 {R : Type} (k_ret : Bool → Option R) (k_exit_4 : (List ((List (List (((Int) × (Int) × Unit) × ((Int) × (Int) × Unit) × Unit))) × Unit)) → (List ((List (List (((Int) × (Int) × Unit) × ((Int) × (Int) × Unit) × Unit))) × Unit)) → Int → Int → Option R) (rec : X_ref21_Same_15 → Option R) (x : X_ref21_Same_15) : Option R :=
  let v1 := ((List.length x.f7 : Nat) : Int)
  let v2 := decide (x.f9 < v1)
  cond v2
  (cond (inB x.f9 (List.length x.f7))
  (let v3 := List.getD x.f7 x.f9.toNat (((0 : Int), ((0 : Int), ())), (((0 : Int), ((0 : Int), ())), ()))
  cond (inB x.f9 (List.length x.f8))
  (let v4 := List.getD x.f8 x.f9.toNat (((0 : Int), ((0 : Int), ())), (((0 : Int), ((0 : Int), ())), ()))
  let v5 := !(((v3.1.1 == v4.1.1) && ((v3.1.2.1 == v4.1.2.1) && true)) && (((v3.2.1.1 == v4.2.1.1) && ((v3.2.1.2.1 == v4.2.1.2.1) && true)) && true))
  cond v5
  (k_ret false)
  (let v6 := IntKind.i64.wrap (x.f9 + (1 : Int))
  rec ⟨x.f0, x.f1, x.f5, x.f6, x.f7, x.f8, v6⟩)) none) none)
  (k_exit_4 x.f0 x.f1 x.f5 x.f6)
noncomputable def S_ref21_Same_15 (x : X_ref21_Same_15) : St := St.ofList [(0, (.v (.sl 89 (.pair (.sl 86 (.sl 85 (.pair (.pair (.int .u64) (.pair (.int .u64) .unit)) (.pair (.pair (.int .i64) (.pair (.int .u64) .unit)) .unit)))) .unit)) .s x.f0)), (1, (.v (.sl 89 (.pair (.sl 86 (.sl 85 (.pair (.pair (.int .u64) (.pair (.int .u64) .unit)) (.pair (.pair (.int .i64) (.pair (.int .u64) .unit)) .unit)))) .unit)) .s x.f1)), (5, (.v (.int .i64) .s x.f5)), (6, (.v (.int .i64) .s x.f6)), (7, (.v (.sl 85 (.pair (.pair (.int .u64) (.pair (.int .u64) .unit)) (.pair (.pair (.int .i64) (.pair (.int .u64) .unit)) .unit))) .s x.f7)), (8, (.v (.sl 85 (.pair (.pair (.int .u64) (.pair (.int .u64) .unit)) (.pair (.pair (.int .i64) (.pair (.int .u64) .unit)) .unit))) .s x.f8)), (9, (.v (.int .i64) .s x.f9))]
def out_ref21_Same_15 : Ex → List (Nat × Bool) | .ret => [(4, false)] | .exit 4 => [(0, false), (1, false), (5, false), (6, false)] | _ => []
noncomputable def fuel_ref21_Same_15 (x : X_ref21_Same_15) : Nat := fuel64
noncomputable def c_ref21_Same_15 : Code := match loopAt 15 (body Try.f20.body) with | some c => c | none => .skip
structure X_ref21_Same_9 where
  f0 : List ((List (List (((Int) × (Int) × Unit) × ((Int) × (Int) × Unit) × Unit))) × Unit)
  f1 : List ((List (List (((Int) × (Int) × Unit) × ((Int) × (Int) × Unit) × Unit))) × Unit)
  f5 : Int
  f6 : Int

noncomputable def B_ref21_Same_9 {R : Type} (k_ret : Bool → Option R) (k_exit_2 : (List ((List (List (((Int) × (Int) × Unit) × ((Int) × (Int) × Unit) × Unit))) × Unit)) → (List ((List (List (((Int) × (Int) × Unit) × ((Int) × (Int) × Unit) × Unit))) × Unit)) → Int → Option R) (rec : X_ref21_Same_9 → Option R) (x : X_ref21_Same_9) : Option R :=
  cond (inB x.f5 (List.length x.f0))
  (let v1 := List.getD x.f0 x.f5.toNat (([] : List (List (((Int) × (Int) × Unit) × ((Int) × (Int) × Unit) × Unit))), ())
  let v2 := ((List.length v1.1 : Nat) : Int)
  let v3 := decide (x.f6 < v2)
  cond v3
  (cond (inB x.f5 (List.length x.f0))
  (let v4 := List.getD x.f0 x.f5.toNat (([] : List (List (((Int) × (Int) × Unit) × ((Int) × (Int) × Unit) × Unit))), ())
  cond (inB x.f6 (List.length v4.1))
  (let v5 := List.getD v4.1 x.f6.toNat ([] : List (((Int) × (Int) × Unit) × ((Int) × (Int) × Unit) × Unit))
  cond (inB x.f5 (List.length x.f1))
  (let v6 := List.getD x.f1 x.f5.toNat (([] : List (List (((Int) × (Int) × Unit) × ((Int) × (Int) × Unit) × Unit))), ())
  cond (inB x.f6 (List.length v6.1))
  (let v7 := List.getD v6.1 x.f6.toNat ([] : List (((Int) × (Int) × Unit) × ((Int) × (Int) × Unit) × Unit))
  let v8 := ((List.length v5 : Nat) : Int)
  let v9 := ((List.length v7 : Nat) : Int)
  let v10 := v8 != v9
  cond v10
  (k_ret false)
  (loopN (B_ref21_Same_15 (fun w11 =>
  k_ret w11) (fun w12 w13 w14 w15 =>
  let v16 := IntKind.i64.wrap (w15 + (1 : Int))
  rec ⟨w12, w13, w14, v16⟩)) (fuel_ref21_Same_15 ⟨x.f0, x.f1, x.f5, x.f6, v5, v7, (0 : Int)⟩) ⟨x.f0, x.f1, x.f5, x.f6, v5, v7, (0 : Int)⟩)) none) none) none) none)
  (k_exit_2 x.f0 x.f1 x.f5)) none
noncomputable def S_ref21_Same_9 (x : X_ref21_Same_9) : St := St.ofList [(0, (.v (.sl 89 (.pair (.sl 86 (.sl 85 (.pair (.pair (.int .u64) (.pair (.int .u64) .unit)) (.pair (.pair (.int .i64) (.pair (.int .u64) .unit)) .unit)))) .unit)) .s x.f0)), (1, (.v (.sl 89 (.pair (.sl 86 (.sl 85 (.pair (.pair (.int .u64) (.pair (.int .u64) .unit)) (.pair (.pair (.int .i64) (.pair (.int .u64) .unit)) .unit)))) .unit)) .s x.f1)), (5, (.v (.int .i64) .s x.f5)), (6, (.v (.int .i64) .s x.f6))]
def out_ref21_Same_9 : Ex → List (Nat × Bool) | .ret => [(4, false)] | .exit 2 => [(0, false), (1, false), (5, false)] | _ => []
noncomputable def fuel_ref21_Same_9 (x : X_ref21_Same_9) : Nat := fuel64
noncomputable def c_ref21_Same_9 : Code := match loopAt 9 (body Try.f20.body) with | some c => c | none => .skip
structure X_ref21_Same_4 where
  f0 : List ((List (List (((Int) × (Int) × Unit) × ((Int) × (Int) × Unit) × Unit))) × Unit)
  f1 : List ((List (List (((Int) × (Int) × Unit) × ((Int) × (Int) × Unit) × Unit))) × Unit)
  f5 : Int

noncomputable def B_ref21_Same_4 {R : Type} (k_ret : Bool → Option R) (k_exit_0 : Option R) (rec : X_ref21_Same_4 → Option R) (x : X_ref21_Same_4) : Option R :=
  let v1 := ((List.length x.f0 : Nat) : Int)
  let v2 := decide (x.f5 < v1)
  cond v2
  (cond (inB x.f5 (List.length x.f0))
  (let v3 := List.getD x.f0 x.f5.toNat (([] : List (List (((Int) × (Int) × Unit) × ((Int) × (Int) × Unit) × Unit))), ())
  let v4 := ((List.length v3.1 : Nat) : Int)
  cond (inB x.f5 (List.length x.f1))
  (let v5 := List.getD x.f1 x.f5.toNat (([] : List (List (((Int) × (Int) × Unit) × ((Int) × (Int) × Unit) × Unit))), ())
  let v6 := ((List.length v5.1 : Nat) : Int)
  let v7 := v4 != v6
  cond v7
  (k_ret false)
  (loopN (B_ref21_Same_9 (fun w8 =>
  k_ret w8) (fun w9 w10 w11 =>
  let v12 := IntKind.i64.wrap (w11 + (1 : Int))
  rec ⟨w9, w10, v12⟩)) (fuel_ref21_Same_9 ⟨x.f0, x.f1, x.f5, (0 : Int)⟩) ⟨x.f0, x.f1, x.f5, (0 : Int)⟩)) none) none)
  (k_exit_0)
noncomputable def S_ref21_Same_4 (x : X_ref21_Same_4) : St := St.ofList [(0, (.v (.sl 89 (.pair (.sl 86 (.sl 85 (.pair (.pair (.int .u64) (.pair (.int .u64) .unit)) (.pair (.pair (.int .i64) (.pair (.int .u64) .unit)) .unit)))) .unit)) .s x.f0)), (1, (.v (.sl 89 (.pair (.sl 86 (.sl 85 (.pair (.pair (.int .u64) (.pair (.int .u64) .unit)) (.pair (.pair (.int .i64) (.pair (.int .u64) .unit)) .unit)))) .unit)) .s x.f1)), (5, (.v (.int .i64) .s x.f5))]
def out_ref21_Same_4 : Ex → List (Nat × Bool) | .ret => [(4, false)] | .exit 0 => [] | _ => []
noncomputable def fuel_ref21_Same_4 (x : X_ref21_Same_4) : Nat := fuel64
noncomputable def c_ref21_Same_4 : Code := match loopAt 4 (body Try.f20.body) with | some c => c | none => .skip
noncomputable def lp_ref21_Same : Loops := fun z i R st K => match z, i with
  | false, 15 => coerce [(0, false), (1, false), (5, false), (6, false), (7, false), (8, false), (9, false)] st (fun st => mV (.sl 89 (.pair (.sl 86 (.sl 85 (.pair (.pair (.int .u64) (.pair (.int .u64) .unit)) (.pair (.pair (.int .i64) (.pair (.int .u64) .unit)) .unit)))) .unit)) .s (st 0) fun y0 => mV (.sl 89 (.pair (.sl 86 (.sl 85 (.pair (.pair (.int .u64) (.pair (.int .u64) .unit)) (.pair (.pair (.int .i64) (.pair (.int .u64) .unit)) .unit)))) .unit)) .s (st 1) fun y1 => mV (.int .i64) .s (st 5) fun y5 => mV (.int .i64) .s (st 6) fun y6 => mV (.sl 85 (.pair (.pair (.int .u64) (.pair (.int .u64) .unit)) (.pair (.pair (.int .i64) (.pair (.int .u64) .unit)) .unit))) .s (st 7) fun y7 => mV (.sl 85 (.pair (.pair (.int .u64) (.pair (.int .u64) .unit)) (.pair (.pair (.int .i64) (.pair (.int .u64) .unit)) .unit))) .s (st 8) fun y8 => mV (.int .i64) .s (st 9) fun y9 => loopN (B_ref21_Same_15 (fun e4 => K .ret (St.ofList [(4, (.v .bool .s e4))])) (fun e0 e1 e5 e6 => K (.exit 4) (St.ofList [(0, (.v (.sl 89 (.pair (.sl 86 (.sl 85 (.pair (.pair (.int .u64) (.pair (.int .u64) .unit)) (.pair (.pair (.int .i64) (.pair (.int .u64) .unit)) .unit)))) .unit)) .s e0)), (1, (.v (.sl 89 (.pair (.sl 86 (.sl 85 (.pair (.pair (.int .u64) (.pair (.int .u64) .unit)) (.pair (.pair (.int .i64) (.pair (.int .u64) .unit)) .unit)))) .unit)) .s e1)), (5, (.v (.int .i64) .s e5)), (6, (.v (.int .i64) .s e6))]))) (fuel_ref21_Same_15 ⟨y0, y1, y5, y6, y7, y8, y9⟩) ⟨y0, y1, y5, y6, y7, y8, y9⟩)
  | false, 9 => coerce [(0, false), (1, false), (5, false), (6, false)] st (fun st => mV (.sl 89 (.pair (.sl 86 (.sl 85 (.pair (.pair (.int .u64) (.pair (.int .u64) .unit)) (.pair (.pair (.int .i64) (.pair (.int .u64) .unit)) .unit)))) .unit)) .s (st 0) fun y0 => mV (.sl 89 (.pair (.sl 86 (.sl 85 (.pair (.pair (.int .u64) (.pair (.int .u64) .unit)) (.pair (.pair (.int .i64) (.pair (.int .u64) .unit)) .unit)))) .unit)) .s (st 1) fun y1 => mV (.int .i64) .s (st 5) fun y5 => mV (.int .i64) .s (st 6) fun y6 => loopN (B_ref21_Same_9 (fun e4 => K .ret (St.ofList [(4, (.v .bool .s e4))])) (fun e0 e1 e5 => K (.exit 2) (St.ofList [(0, (.v (.sl 89 (.pair (.sl 86 (.sl 85 (.pair (.pair (.int .u64) (.pair (.int .u64) .unit)) (.pair (.pair (.int .i64) (.pair (.int .u64) .unit)) .unit)))) .unit)) .s e0)), (1, (.v (.sl 89 (.pair (.sl 86 (.sl 85 (.pair (.pair (.int .u64) (.pair (.int .u64) .unit)) (.pair (.pair (.int .i64) (.pair (.int .u64) .unit)) .unit)))) .unit)) .s e1)), (5, (.v (.int .i64) .s e5))]))) (fuel_ref21_Same_9 ⟨y0, y1, y5, y6⟩) ⟨y0, y1, y5, y6⟩)
  | false, 4 => coerce [(0, false), (1, false), (5, false)] st (fun st => mV (.sl 89 (.pair (.sl 86 (.sl 85 (.pair (.pair (.int .u64) (.pair (.int .u64) .unit)) (.pair (.pair (.int .i64) (.pair (.int .u64) .unit)) .unit)))) .unit)) .s (st 0) fun y0 => mV (.sl 89 (.pair (.sl 86 (.sl 85 (.pair (.pair (.int .u64) (.pair (.int .u64) .unit)) (.pair (.pair (.int .i64) (.pair (.int .u64) .unit)) .unit)))) .unit)) .s (st 1) fun y1 => mV (.int .i64) .s (st 5) fun y5 => loopN (B_ref21_Same_4 (fun e4 => K .ret (St.ofList [(4, (.v .bool .s e4))])) (K (.exit 0) (St.ofList []))) (fuel_ref21_Same_4 ⟨y0, y1, y5⟩) ⟨y0, y1, y5⟩)
  | _, _ => none
theorem step_ref21_Same_15 (R : Type) (K : Ex → St → Option R) (rec : St → Option R) (x : X_ref21_Same_15) : evC env_ref21_Same lp_ref21_Same inl0 c_ref21_Same_15 (S_ref21_Same_15 x) (fun e st => match e with | .normal => coerce [(0, false), (1, false), (5, false), (6, false), (7, false), (8, false), (9, false)] st rec | e => coerce (out_ref21_Same_15 e) st (K e)) = B_ref21_Same_15 (fun e4 => K .ret (St.ofList [(4, (.v .bool .s e4))])) (fun e0 e1 e5 e6 => K (.exit 4) (St.ofList [(0, (.v (.sl 89 (.pair (.sl 86 (.sl 85 (.pair (.pair (.int .u64) (.pair (.int .u64) .unit)) (.pair (.pair (.int .i64) (.pair (.int .u64) .unit)) .unit)))) .unit)) .s e0)), (1, (.v (.sl 89 (.pair (.sl 86 (.sl 85 (.pair (.pair (.int .u64) (.pair (.int .u64) .unit)) (.pair (.pair (.int .i64) (.pair (.int .u64) .unit)) .unit)))) .unit)) .s e1)), (5, (.v (.int .i64) .s e5)), (6, (.v (.int .i64) .s e6))])) (fun x => rec (S_ref21_Same_15 x)) x := by kernel_rfl
theorem ok_ref21_Same_15 : LoopOk env_ref21_Same lp_ref21_Same inl0 c_ref21_Same_15 := by
  refine loopOk_of (hd := [(0, false), (1, false), (5, false), (6, false), (7, false), (8, false), (9, false)]) (out := out_ref21_Same_15) (S := S_ref21_Same_15) (fun _ K => B_ref21_Same_15 (fun e4 => K .ret (St.ofList [(4, (.v .bool .s e4))])) (fun e0 e1 e5 e6 => K (.exit 4) (St.ofList [(0, (.v (.sl 89 (.pair (.sl 86 (.sl 85 (.pair (.pair (.int .u64) (.pair (.int .u64) .unit)) (.pair (.pair (.int .i64) (.pair (.int .u64) .unit)) .unit)))) .unit)) .s e0)), (1, (.v (.sl 89 (.pair (.sl 86 (.sl 85 (.pair (.pair (.int .u64) (.pair (.int .u64) .unit)) (.pair (.pair (.int .i64) (.pair (.int .u64) .unit)) .unit)))) .unit)) .s e1)), (5, (.v (.int .i64) .s e5)), (6, (.v (.int .i64) .s e6))]))) fuel_ref21_Same_15 15 step_ref21_Same_15 (by kernel_rfl) (fun R K => fun st => mV (.sl 89 (.pair (.sl 86 (.sl 85 (.pair (.pair (.int .u64) (.pair (.int .u64) .unit)) (.pair (.pair (.int .i64) (.pair (.int .u64) .unit)) .unit)))) .unit)) .s (st 0) fun y0 => mV (.sl 89 (.pair (.sl 86 (.sl 85 (.pair (.pair (.int .u64) (.pair (.int .u64) .unit)) (.pair (.pair (.int .i64) (.pair (.int .u64) .unit)) .unit)))) .unit)) .s (st 1) fun y1 => mV (.int .i64) .s (st 5) fun y5 => mV (.int .i64) .s (st 6) fun y6 => mV (.sl 85 (.pair (.pair (.int .u64) (.pair (.int .u64) .unit)) (.pair (.pair (.int .i64) (.pair (.int .u64) .unit)) .unit))) .s (st 7) fun y7 => mV (.sl 85 (.pair (.pair (.int .u64) (.pair (.int .u64) .unit)) (.pair (.pair (.int .i64) (.pair (.int .u64) .unit)) .unit))) .s (st 8) fun y8 => mV (.int .i64) .s (st 9) fun y9 => loopN (B_ref21_Same_15 (fun e4 => K .ret (St.ofList [(4, (.v .bool .s e4))])) (fun e0 e1 e5 e6 => K (.exit 4) (St.ofList [(0, (.v (.sl 89 (.pair (.sl 86 (.sl 85 (.pair (.pair (.int .u64) (.pair (.int .u64) .unit)) (.pair (.pair (.int .i64) (.pair (.int .u64) .unit)) .unit)))) .unit)) .s e0)), (1, (.v (.sl 89 (.pair (.sl 86 (.sl 85 (.pair (.pair (.int .u64) (.pair (.int .u64) .unit)) (.pair (.pair (.int .i64) (.pair (.int .u64) .unit)) .unit)))) .unit)) .s e1)), (5, (.v (.int .i64) .s e5)), (6, (.v (.int .i64) .s e6))]))) (fuel_ref21_Same_15 ⟨y0, y1, y5, y6, y7, y8, y9⟩) ⟨y0, y1, y5, y6, y7, y8, y9⟩) (fun R st K => by kernel_rfl) ?_
  intro R K st r h
  obtain ⟨y0, hy0, h⟩ := mV_inv h
  obtain ⟨y1, hy1, h⟩ := mV_inv h
  obtain ⟨y5, hy5, h⟩ := mV_inv h
  obtain ⟨y6, hy6, h⟩ := mV_inv h
  obtain ⟨y7, hy7, h⟩ := mV_inv h
  obtain ⟨y8, hy8, h⟩ := mV_inv h
  obtain ⟨y9, hy9, h⟩ := mV_inv h
  exact ⟨⟨y0, y1, y5, y6, y7, y8, y9⟩, only_of_list (ofList_cons hy0 (ofList_cons hy1 (ofList_cons hy5 (ofList_cons hy6 (ofList_cons hy7 (ofList_cons hy8 (ofList_cons hy9 rfl))))))), h⟩
theorem step_ref21_Same_9 (R : Type) (K : Ex → St → Option R) (rec : St → Option R) (x : X_ref21_Same_9) : evC env_ref21_Same lp_ref21_Same inl0 c_ref21_Same_9 (S_ref21_Same_9 x) (fun e st => match e with | .normal => coerce [(0, false), (1, false), (5, false), (6, false)] st rec | e => coerce (out_ref21_Same_9 e) st (K e)) = B_ref21_Same_9 (fun e4 => K .ret (St.ofList [(4, (.v .bool .s e4))])) (fun e0 e1 e5 => K (.exit 2) (St.ofList [(0, (.v (.sl 89 (.pair (.sl 86 (.sl 85 (.pair (.pair (.int .u64) (.pair (.int .u64) .unit)) (.pair (.pair (.int .i64) (.pair (.int .u64) .unit)) .unit)))) .unit)) .s e0)), (1, (.v (.sl 89 (.pair (.sl 86 (.sl 85 (.pair (.pair (.int .u64) (.pair (.int .u64) .unit)) (.pair (.pair (.int .i64) (.pair (.int .u64) .unit)) .unit)))) .unit)) .s e1)), (5, (.v (.int .i64) .s e5))])) (fun x => rec (S_ref21_Same_9 x)) x := by kernel_rfl
theorem ok_ref21_Same_9 : LoopOk env_ref21_Same lp_ref21_Same inl0 c_ref21_Same_9 := by
  refine loopOk_of (hd := [(0, false), (1, false), (5, false), (6, false)]) (out := out_ref21_Same_9) (S := S_ref21_Same_9) (fun _ K => B_ref21_Same_9 (fun e4 => K .ret (St.ofList [(4, (.v .bool .s e4))])) (fun e0 e1 e5 => K (.exit 2) (St.ofList [(0, (.v (.sl 89 (.pair (.sl 86 (.sl 85 (.pair (.pair (.int .u64) (.pair (.int .u64) .unit)) (.pair (.pair (.int .i64) (.pair (.int .u64) .unit)) .unit)))) .unit)) .s e0)), (1, (.v (.sl 89 (.pair (.sl 86 (.sl 85 (.pair (.pair (.int .u64) (.pair (.int .u64) .unit)) (.pair (.pair (.int .i64) (.pair (.int .u64) .unit)) .unit)))) .unit)) .s e1)), (5, (.v (.int .i64) .s e5))]))) fuel_ref21_Same_9 9 step_ref21_Same_9 (by kernel_rfl) (fun R K => fun st => mV (.sl 89 (.pair (.sl 86 (.sl 85 (.pair (.pair (.int .u64) (.pair (.int .u64) .unit)) (.pair (.pair (.int .i64) (.pair (.int .u64) .unit)) .unit)))) .unit)) .s (st 0) fun y0 => mV (.sl 89 (.pair (.sl 86 (.sl 85 (.pair (.pair (.int .u64) (.pair (.int .u64) .unit)) (.pair (.pair (.int .i64) (.pair (.int .u64) .unit)) .unit)))) .unit)) .s (st 1) fun y1 => mV (.int .i64) .s (st 5) fun y5 => mV (.int .i64) .s (st 6) fun y6 => loopN (B_ref21_Same_9 (fun e4 => K .ret (St.ofList [(4, (.v .bool .s e4))])) (fun e0 e1 e5 => K (.exit 2) (St.ofList [(0, (.v (.sl 89 (.pair (.sl 86 (.sl 85 (.pair (.pair (.int .u64) (.pair (.int .u64) .unit)) (.pair (.pair (.int .i64) (.pair (.int .u64) .unit)) .unit)))) .unit)) .s e0)), (1, (.v (.sl 89 (.pair (.sl 86 (.sl 85 (.pair (.pair (.int .u64) (.pair (.int .u64) .unit)) (.pair (.pair (.int .i64) (.pair (.int .u64) .unit)) .unit)))) .unit)) .s e1)), (5, (.v (.int .i64) .s e5))]))) (fuel_ref21_Same_9 ⟨y0, y1, y5, y6⟩) ⟨y0, y1, y5, y6⟩) (fun R st K => by kernel_rfl) ?_
  intro R K st r h
  obtain ⟨y0, hy0, h⟩ := mV_inv h
  obtain ⟨y1, hy1, h⟩ := mV_inv h
  obtain ⟨y5, hy5, h⟩ := mV_inv h
  obtain ⟨y6, hy6, h⟩ := mV_inv h
  exact ⟨⟨y0, y1, y5, y6⟩, only_of_list (ofList_cons hy0 (ofList_cons hy1 (ofList_cons hy5 (ofList_cons hy6 rfl)))), h⟩
theorem step_ref21_Same_4 (R : Type) (K : Ex → St → Option R) (rec : St → Option R) (x : X_ref21_Same_4) : evC env_ref21_Same lp_ref21_Same inl0 c_ref21_Same_4 (S_ref21_Same_4 x) (fun e st => match e with | .normal => coerce [(0, false), (1, false), (5, false)] st rec | e => coerce (out_ref21_Same_4 e) st (K e)) = B_ref21_Same_4 (fun e4 => K .ret (St.ofList [(4, (.v .bool .s e4))])) (K (.exit 0) (St.ofList [])) (fun x => rec (S_ref21_Same_4 x)) x := by kernel_rfl
theorem ok_ref21_Same_4 : LoopOk env_ref21_Same lp_ref21_Same inl0 c_ref21_Same_4 := by
  refine loopOk_of (hd := [(0, false), (1, false), (5, false)]) (out := out_ref21_Same_4) (S := S_ref21_Same_4) (fun _ K => B_ref21_Same_4 (fun e4 => K .ret (St.ofList [(4, (.v .bool .s e4))])) (K (.exit 0) (St.ofList []))) fuel_ref21_Same_4 4 step_ref21_Same_4 (by kernel_rfl) (fun R K => fun st => mV (.sl 89 (.pair (.sl 86 (.sl 85 (.pair (.pair (.int .u64) (.pair (.int .u64) .unit)) (.pair (.pair (.int .i64) (.pair (.int .u64) .unit)) .unit)))) .unit)) .s (st 0) fun y0 => mV (.sl 89 (.pair (.sl 86 (.sl 85 (.pair (.pair (.int .u64) (.pair (.int .u64) .unit)) (.pair (.pair (.int .i64) (.pair (.int .u64) .unit)) .unit)))) .unit)) .s (st 1) fun y1 => mV (.int .i64) .s (st 5) fun y5 => loopN (B_ref21_Same_4 (fun e4 => K .ret (St.ofList [(4, (.v .bool .s e4))])) (K (.exit 0) (St.ofList []))) (fuel_ref21_Same_4 ⟨y0, y1, y5⟩) ⟨y0, y1, y5⟩) (fun R st K => by kernel_rfl) ?_
  intro R K st r h
  obtain ⟨y0, hy0, h⟩ := mV_inv h
  obtain ⟨y1, hy1, h⟩ := mV_inv h
  obtain ⟨y5, hy5, h⟩ := mV_inv h
  exact ⟨⟨y0, y1, y5⟩, only_of_list (ofList_cons hy0 (ofList_cons hy1 (ofList_cons hy5 rfl))), h⟩
theorem loops_ref21_Same : LoopsOk env_ref21_Same lp_ref21_Same inl0 (body Try.f20.body) := by
  refine loopsOk_of (fun c hc => ?_) (fun c hc => ?_)
  · rw [show loopsL (body Try.f20.body) = [c_ref21_Same_4, c_ref21_Same_9, c_ref21_Same_15] by kernel_rfl] at hc
    simp only [List.mem_cons, List.not_mem_nil, or_false] at hc
    rcases hc with rfl | rfl | rfl
    · exact ok_ref21_Same_4
    · exact ok_ref21_Same_9
    · exact ok_ref21_Same_15
  · rw [show joinsL env_ref21_Same (body Try.f20.body) = [] by kernel_rfl] at hc; cases hc
noncomputable def p_ref21_Same {R : Type} (a0 : List ((List (List (((Int) × (Int) × Unit) × ((Int) × (Int) × Unit) × Unit))) × Unit)) (a1 : List ((List (List (((Int) × (Int) × Unit) × ((Int) × (Int) × Unit) × Unit))) × Unit)) (K : Bool → Option R) : Option R :=
  let v1 := ((List.length a0 : Nat) : Int)
  let v2 := ((List.length a1 : Nat) : Int)
  let v3 := v1 != v2
  cond v3
  (K false)
  (loopN (B_ref21_Same_4 (fun w4 =>
  K w4) (K true)) (fuel_ref21_Same_4 ⟨a0, a1, (0 : Int)⟩) ⟨a0, a1, (0 : Int)⟩)
noncomputable def cs_ref21_Same : CSpec := { ins := [(.val (.sl 89 (.pair (.sl 86 (.sl 85 (.pair (.pair (.int .u64) (.pair (.int .u64) .unit)) (.pair (.pair (.int .i64) (.pair (.int .u64) .unit)) .unit)))) .unit)) .s), (.val (.sl 89 (.pair (.sl 86 (.sl 85 (.pair (.pair (.int .u64) (.pair (.int .u64) .unit)) (.pair (.pair (.int .i64) (.pair (.int .u64) .unit)) .unit)))) .unit)) .s)], outs := [(.bool, .s)], fn := fun (d : (List ((List (List (((Int) × (Int) × Unit) × ((Int) × (Int) × Unit) × Unit))) × Unit)) × (List ((List (List (((Int) × (Int) × Unit) × ((Int) × (Int) × Unit) × Unit))) × Unit)) × Unit) K _ => p_ref21_Same d.1 d.2.1 (fun r0 => K ((r0, ()) : Bool × Unit) ((()) : Unit)) }
theorem h_ref21_Same : Holds Try.prog 20 cs_ref21_Same := by
  refine holds_of (env := env_ref21_Same) (inl := inl0) (fn := Try.f20) (code := body Try.f20.body) (rs := [(4, none)]) (lp := lp_ref21_Same) mixed ⟨envTyOk.ty, envTyOk.eq⟩ (fun _ _ _ h => by cases h) inl0_ok Try.func20 (by kernel_rfl) (by kernel_rfl) (by kernel_rfl) (by kernel_rfl) (by kernel_rfl) loops_ref21_Same (by kernel_rfl) ?_
  intro d R K Kp res h
  have : evC env_ref21_Same lp_ref21_Same inl0 (body Try.f20.body) (St.start cs_ref21_Same.ins d) (retK env_ref21_Same cs_ref21_Same.ins cs_ref21_Same.outs [(4, none)] cs_ref21_Same.pan K Kp) = cs_ref21_Same.fn d K Kp := by kernel_rfl
  rw [this]; exact h
-- f6 trammel/trammellaw21.CertBack
noncomputable def gam_law21_CertBack : FuncId → List FuncId → Option CSpec
  | 14, [] => some cs_law21_awake
  | 15, [] => some cs_ref21_Short
  | 16, [] => some cs_cert_Put
  | 19, [] => some cs_cert_Read
  | 20, [] => some cs_ref21_Same
  | 18, [] => some cs_ref01_Same
  | _, _ => none
noncomputable def sb_law21_CertBack : Nat → Bool
  | 19 => true
  | _ => false
noncomputable def lv_law21_CertBack : Nat → Option (List Nat)
  | 0 => some [0, 1]
  | 1 => some [0, 1]
  | 2 => some []
  | 3 => some [0, 1]
  | 4 => some [0, 1]
  | 5 => some []
  | 6 => some [0, 1]
  | 7 => some [0, 1, 5, 6]
  | 8 => some [0, 1, 5]
  | 9 => some [0, 1, 7, 8]
  | 10 => some []
  | 11 => some [1]
  | 12 => some [1, 9, 10]
  | 13 => some [9]
  | 14 => some [1, 9]
  | 15 => some [1, 11, 12]
  | _ => none
noncomputable def env_law21_CertBack : Env := { ty := envTy, eq := envEq, gam := gam_law21_CertBack, n := Try.f6.ntmps, sb := sb_law21_CertBack, lv := lv_law21_CertBack }
theorem gamOk_law21_CertBack : EnvFn Try.prog env_law21_CertBack := by
  intro f gs c h
  unfold env_law21_CertBack gam_law21_CertBack at h
  simp only at h
  split at h <;> first | (cases h; done) | (cases h; exact h_law21_awake) | (cases h; exact h_ref21_Short) | (cases h; exact h_cert_Put) | (cases h; exact h_cert_Read) | (cases h; exact h_ref21_Same) | (cases h; exact h_ref01_Same)
noncomputable def p_law21_CertBack {R : Type} (a0 : List ((List (List (((Int) × (Int) × Unit) × ((Int) × (Int) × Unit) × Unit))) × Unit)) (a1 : List (Int)) (K : Bool → Option R) : Option R :=
  p_law21_awake fun r1 =>
  let v2 := !r1
  cond v2
  (K false)
  (let v3 := ((List.length a1 : Nat) : Int)
  let v4 := minI v3 (4000 : Int)
  cond (inR (0 : Int) v4 (List.length a1))
  (let v5 := rng a1 (0 : Int) v4
  p_ref21_Short a0 fun r6 =>
  let v7 := !r6
  cond v7
  (K true)
  (p_cert_Put a0 fun r8 r9 =>
  let v10 := r9 == (0 : Int)
  cond v10
  (p_cert_Read r8 fun r11 r12 =>
  let v13 := r12 != (0 : Int)
  cond v13
  (K false)
  (p_ref21_Same a0 r11 fun r14 =>
  let v15 := !r14
  cond v15
  (K false)
  (p_cert_Read v5 fun r16 r17 =>
  let v18 := r17 != (0 : Int)
  cond v18
  (let v19 := ((List.length r16 : Nat) : Int)
  let v20 := v19 == (0 : Int)
  K v20)
  (p_cert_Put r16 fun r21 r22 =>
  let v23 := r22 == (0 : Int)
  cond v23
  (p_ref01_Same v5 r21 fun r24 =>
  K r24)
  (K false)))))
  (p_cert_Read v5 fun r25 r26 =>
  let v27 := r26 != (0 : Int)
  cond v27
  (let v28 := ((List.length r25 : Nat) : Int)
  let v29 := v28 == (0 : Int)
  K v29)
  (p_cert_Put r25 fun r30 r31 =>
  let v32 := r31 == (0 : Int)
  cond v32
  (p_ref01_Same v5 r30 fun r33 =>
  K r33)
  (K false))))) none)
noncomputable def cs_law21_CertBack : CSpec := { ins := [(.val (.sl 89 (.pair (.sl 86 (.sl 85 (.pair (.pair (.int .u64) (.pair (.int .u64) .unit)) (.pair (.pair (.int .i64) (.pair (.int .u64) .unit)) .unit)))) .unit)) .s), (.val (.sl 5 (.int .u8)) .s)], outs := [(.bool, .s)], fn := fun (d : (List ((List (List (((Int) × (Int) × Unit) × ((Int) × (Int) × Unit) × Unit))) × Unit)) × (List (Int)) × Unit) K _ => p_law21_CertBack d.1 d.2.1 (fun r0 => K ((r0, ()) : Bool × Unit) ((()) : Unit)) }
theorem h_law21_CertBack : Holds Try.prog 6 cs_law21_CertBack := by
  refine holds_of (env := env_law21_CertBack) (inl := inl0) (fn := Try.f6) (code := body Try.f6.body) (rs := [(4, none)]) (lp := lp0) mixed ⟨envTyOk.ty, envTyOk.eq⟩ gamOk_law21_CertBack inl0_ok Try.func6 (by kernel_rfl) (by kernel_rfl) (by kernel_rfl) (by kernel_rfl) (by kernel_rfl) (loopsOk_none (by kernel_rfl) (by kernel_rfl)) (by kernel_rfl) ?_
  intro d R K Kp res h
  have : evC env_law21_CertBack lp0 inl0 (body Try.f6.body) (St.start cs_law21_CertBack.ins d) (retK env_law21_CertBack cs_law21_CertBack.ins cs_law21_CertBack.outs [(4, none)] cs_law21_CertBack.pan K Kp) = cs_law21_CertBack.fn d K Kp := by kernel_rfl
  rw [this]; exact h
-- f7 trammel/trammellaw21.CertCut
noncomputable def gam_law21_CertCut : FuncId → List FuncId → Option CSpec
  | 14, [] => some cs_law21_awake
  | 15, [] => some cs_ref21_Short
  | 16, [] => some cs_cert_Put
  | 19, [] => some cs_cert_Read
  | _, _ => none
noncomputable def env_law21_CertCut : Env := { ty := envTy, eq := envEq, gam := gam_law21_CertCut, n := Try.f7.ntmps }
theorem gamOk_law21_CertCut : EnvFn Try.prog env_law21_CertCut := by
  intro f gs c h
  unfold env_law21_CertCut gam_law21_CertCut at h
  simp only at h
  split at h <;> first | (cases h; done) | (cases h; exact h_law21_awake) | (cases h; exact h_ref21_Short) | (cases h; exact h_cert_Put) | (cases h; exact h_cert_Read)
noncomputable def p_law21_CertCut {R : Type} (a0 : List ((List (List (((Int) × (Int) × Unit) × ((Int) × (Int) × Unit) × Unit))) × Unit)) (a1 : Int) (K : Bool → Option R) : Option R :=
  p_law21_awake fun r1 =>
  let v2 := !r1
  cond v2
  (K false)
  (p_ref21_Short a0 fun r3 =>
  let v4 := !r3
  cond v4
  (K true)
  (p_cert_Put a0 fun r5 r6 =>
  let v7 := r6 != (0 : Int)
  cond v7
  (K true)
  (let v8 := decide (a1 < (0 : Int))
  cond v8
  (K true)
  (let v9 := ((List.length r5 : Nat) : Int)
  let v10 := decide (a1 ≥ v9)
  cond v10
  (K true)
  (cond (inR (0 : Int) a1 (List.length r5))
  (let v11 := rng r5 (0 : Int) a1
  p_cert_Read v11 fun r12 r13 =>
  let v14 := r13 == (1 : Int)
  cond v14
  (let v15 := ((List.length r12 : Nat) : Int)
  let v16 := v15 == (0 : Int)
  K v16)
  (K false)) none)))))
noncomputable def cs_law21_CertCut : CSpec := { ins := [(.val (.sl 89 (.pair (.sl 86 (.sl 85 (.pair (.pair (.int .u64) (.pair (.int .u64) .unit)) (.pair (.pair (.int .i64) (.pair (.int .u64) .unit)) .unit)))) .unit)) .s), (.val (.int .i64) .s)], outs := [(.bool, .s)], fn := fun (d : (List ((List (List (((Int) × (Int) × Unit) × ((Int) × (Int) × Unit) × Unit))) × Unit)) × Int × Unit) K _ => p_law21_CertCut d.1 d.2.1 (fun r0 => K ((r0, ()) : Bool × Unit) ((()) : Unit)) }
theorem h_law21_CertCut : Holds Try.prog 7 cs_law21_CertCut := by
  refine holds_of (env := env_law21_CertCut) (inl := inl0) (fn := Try.f7) (code := body Try.f7.body) (rs := [(4, none)]) (lp := lp0) mixed ⟨envTyOk.ty, envTyOk.eq⟩ gamOk_law21_CertCut inl0_ok Try.func7 (by kernel_rfl) (by kernel_rfl) (by kernel_rfl) (by kernel_rfl) (by kernel_rfl) (loopsOk_none (by kernel_rfl) (by kernel_rfl)) (by kernel_rfl) ?_
  intro d R K Kp res h
  have : evC env_law21_CertCut lp0 inl0 (body Try.f7.body) (St.start cs_law21_CertCut.ins d) (retK env_law21_CertCut cs_law21_CertCut.ins cs_law21_CertCut.outs [(4, none)] cs_law21_CertCut.pan K Kp) = cs_law21_CertCut.fn d K Kp := by kernel_rfl
  rw [this]; exact h
end Go.Trm.G1
