import Derived.Test.YthidebepdpkgkabTrmHand
import Derived.Test.YthidebepdpkgkabProg
import Derived.KernelRfl
set_option linter.unusedVariables false
set_option linter.unusedSimpArgs false
namespace Go.Trm.G1
open Go.Proofs
set_option maxRecDepth 100000
abbrev Ty0 : Ty := (.pair (.pair (.int .u64) (.pair (.int .u64) .unit)) (.pair (.pair (.int .i64) (.pair (.int .u64) .unit)) .unit))
abbrev It1 : Type := (List (List (((Int) × (Int) × Unit) × ((Int) × (Int) × Unit) × Unit))) × Unit
abbrev Ty2 : Ty := (.pair (.int .i64) (.pair (.int .i64) (.pair (.sl 3 (.int .i64)) .unit)))
abbrev It3 : Type := (List UInt8) × (Int) × (Int) × ((Int) × (Bool) × (Int) × Unit) × (Bool) × Unit
abbrev It4 : Type := (List (Int)) × (List ((Int) × (Int) × (Int) × (Int) × (List (Int)) × Unit)) × Unit
abbrev It5 : Type := (Bool) × (List ((Int) × (Int) × (Int) × (Int) × (List (Int)) × Unit)) × Unit
abbrev It6 : Type := (List ((Int) × (Int) × (Int) × (Int) × (List (Int)) × Unit)) × (List (Int)) × Unit
abbrev It7 : Type := (List ((Int) × It6)) × (List ((List UInt8) × (List (Int)) × Unit)) × Unit
abbrev It8 : Type := (List ((List UInt8) × (Int) × (Int) × Unit)) × (List (Int)) × (List ((Int) × It6)) × (List (Int)) × It7
abbrev It9 : Type := (List ((Int) × (Bool) × (Int) × Unit)) × (List ((Int) × (Bool) × (Int) × Unit)) × (List ((Int) × It5)) × It8
abbrev It10 : Type := (List ((List (Int)) × (List (Int)) × Unit)) × (List ((List UInt8) × It3)) × (List ((Int) × It4)) × It9
abbrev Ty11 : Ty := (.sl 112 (.pair (.sl 3 (.int .i64)) (.pair (.sl 3 (.int .i64)) .unit)))
abbrev Ty12 : Ty := (.pair (.pair (.int .i64) (.pair .bool (.pair (.int .i64) .unit))) (.pair .bool .unit))
abbrev Ty13 : Ty := (.pair .str (.pair .str (.pair (.int .i64) (.pair (.int .i64) Ty12))))
abbrev Ty14 : Ty := (.pair (.sl 3 (.int .i64)) (.pair (.sl 170 (.pair (.int .i64) (.pair (.int .i64) Ty2))) .unit))
abbrev Ty15 : Ty := (.pair .bool (.pair (.sl 170 (.pair (.int .i64) (.pair (.int .i64) Ty2))) .unit))
abbrev Ty16 : Ty := (.pair (.sl 170 (.pair (.int .i64) (.pair (.int .i64) Ty2))) (.pair (.sl 3 (.int .i64)) .unit))
abbrev Ty17 : Ty := (.pair (.sl 170 (.pair (.int .i64) (.pair (.int .i64) Ty2))) (.pair (.sl 5 (.int .u8)) .unit))
abbrev Ty18 : Ty := (.pair (.sl 129 (.pair (.int .i64) Ty17)) (.pair (.sl 44 (.pair .str (.pair (.sl 5 (.int .u8)) .unit))) .unit))
abbrev Ty19 : Ty := (.pair (.sl 127 (.pair (.int .i64) Ty16)) (.pair (.sl 3 (.int .i64)) Ty18))
abbrev Ty20 : Ty := (.pair (.sl 125 (.pair .str (.pair (.int .i64) (.pair (.int .i64) .unit)))) (.pair (.sl 3 (.int .i64)) Ty19))
abbrev Ty21 : Ty := (.pair (.sl 115 (.pair (.int .i64) (.pair .bool (.pair (.int .i64) .unit)))) (.pair (.sl 123 (.pair (.int .i64) Ty15)) Ty20))
abbrev Ty22 : Ty := (.pair (.sl 115 (.pair (.int .i64) (.pair .bool (.pair (.int .i64) .unit)))) Ty21)
abbrev Ty23 : Ty := (.pair (.sl 117 Ty13) (.pair (.sl 120 (.pair (.int .i64) Ty14)) Ty22))
abbrev Ty24 : Ty := (.pair (.sl 5 (.int .u8)) (.pair (.int .i64) (.pair (.int .i64) .unit)))
abbrev Ty25 : Ty := (.pair (.int .i64) (.pair (.int .i64) (.pair .bool (.pair (.int .u8) .unit))))
noncomputable def envTy : TypeId → Option Ty
  | 2 => some (.int .i64)
  | 3 => some (.int .i64)
  | 4 => some .bool
  | 5 => some (.int .u8)
  | 6 => some (.int .u8)
  | 7 => some Ty25
  | 8 => some Ty25
  | 9 => some .str
  | 10 => some .str
  | 11 => some .str
  | 12 => some (.int .u64)
  | 13 => some (.pair .str (.pair (.int .u64) .unit))
  | 14 => some (.pair .str (.pair (.int .u64) .unit))
  | 21 => some (.int .i32)
  | 22 => some (.sl 5 (.int .u8))
  | 24 => some (.int .i64)
  | 32 => some (.sl 89 (.pair (.sl 86 (.sl 85 Ty0)) .unit))
  | 43 => some (.pair .str (.pair (.sl 5 (.int .u8)) .unit))
  | 44 => some (.pair .str (.pair (.sl 5 (.int .u8)) .unit))
  | 51 => some Ty11
  | 52 => some (.sl 117 Ty13)
  | 53 => some (.sl 120 (.pair (.int .i64) Ty14))
  | 54 => some (.sl 115 (.pair (.int .i64) (.pair .bool (.pair (.int .i64) .unit))))
  | 55 => some (.sl 123 (.pair (.int .i64) Ty15))
  | 56 => some (.sl 125 (.pair .str (.pair (.int .i64) (.pair (.int .i64) .unit))))
  | 57 => some (.sl 3 (.int .i64))
  | 58 => some (.sl 127 (.pair (.int .i64) Ty16))
  | 59 => some (.sl 129 (.pair (.int .i64) Ty17))
  | 60 => some (.sl 44 (.pair .str (.pair (.sl 5 (.int .u8)) .unit)))
  | 61 => some (.pair Ty11 Ty23)
  | 62 => some (.pair Ty11 Ty23)
  | 75 => some (.int .u64)
  | 80 => some (.pair (.int .u64) (.pair (.int .u64) .unit))
  | 81 => some (.pair (.int .u64) (.pair (.int .u64) .unit))
  | 82 => some (.pair (.int .i64) (.pair (.int .u64) .unit))
  | 83 => some (.pair (.int .i64) (.pair (.int .u64) .unit))
  | 84 => some Ty0
  | 85 => some Ty0
  | 86 => some (.sl 85 Ty0)
  | 87 => some (.sl 86 (.sl 85 Ty0))
  | 88 => some (.pair (.sl 86 (.sl 85 Ty0)) .unit)
  | 89 => some (.pair (.sl 86 (.sl 85 Ty0)) .unit)
  | 90 => some (.sl 75 (.int .u64))
  | 94 => some (.ptr 96 (.pair (.sl 5 (.int .u8)) (.pair (.int .i64) .unit)))
  | 95 => some (.pair (.sl 5 (.int .u8)) (.pair (.int .i64) .unit))
  | 96 => some (.pair (.sl 5 (.int .u8)) (.pair (.int .i64) .unit))
  | 100 => some (.pair (.int .i64) (.pair (.sl 5 (.int .u8)) .unit))
  | 101 => some (.pair (.int .i64) (.pair (.sl 5 (.int .u8)) .unit))
  | 102 => some (.sl 101 (.pair (.int .i64) (.pair (.sl 5 (.int .u8)) .unit)))
  | 109 => some (.arr 5 (.int .i64))
  | 111 => some (.pair (.sl 3 (.int .i64)) (.pair (.sl 3 (.int .i64)) .unit))
  | 112 => some (.pair (.sl 3 (.int .i64)) (.pair (.sl 3 (.int .i64)) .unit))
  | 114 => some (.pair (.int .i64) (.pair .bool (.pair (.int .i64) .unit)))
  | 115 => some (.pair (.int .i64) (.pair .bool (.pair (.int .i64) .unit)))
  | 116 => some Ty13
  | 117 => some Ty13
  | 118 => some (.sl 170 (.pair (.int .i64) (.pair (.int .i64) Ty2)))
  | 119 => some (.pair (.int .i64) Ty14)
  | 120 => some (.pair (.int .i64) Ty14)
  | 122 => some (.pair (.int .i64) Ty15)
  | 123 => some (.pair (.int .i64) Ty15)
  | 124 => some (.pair .str (.pair (.int .i64) (.pair (.int .i64) .unit)))
  | 125 => some (.pair .str (.pair (.int .i64) (.pair (.int .i64) .unit)))
  | 126 => some (.pair (.int .i64) Ty16)
  | 127 => some (.pair (.int .i64) Ty16)
  | 128 => some (.pair (.int .i64) Ty17)
  | 129 => some (.pair (.int .i64) Ty17)
  | 151 => some (.ptr 153 Ty24)
  | 152 => some Ty24
  | 153 => some Ty24
  | 155 => some (.sl 22 (.sl 5 (.int .u8)))
  | 157 => some (.int .u64)
  | 164 => some (.pair (.int .i64) .unit)
  | 165 => some (.pair (.int .i64) .unit)
  | 169 => some (.pair (.int .i64) (.pair (.int .i64) Ty2))
  | 170 => some (.pair (.int .i64) (.pair (.int .i64) Ty2))
  | 174 => some (.ptr 165 (.pair (.int .i64) .unit))
  | 175 => some (.sl 4 .bool)
  | 186 => some (.int .u32)
  | 187 => some (.int .u8)
  | 188 => some (.int .u8)
  | 190 => some (.ptr 5 (.int .u8))
  | 191 => some (.int .i32)
  | 192 => some (.int .i32)
  | _ => none
noncomputable def envEq : TypeId → Bool
  | 85 => true
  | 115 => true
  | 117 => true
  | 125 => true
  | _ => false
noncomputable def noG : FuncId → List FuncId → Option CSpec := fun _ _ => none
theorem envTyOk : EnvTy Try.prog { ty := envTy, gam := fun _ _ => none, n := 0, eq := envEq } := by
  refine ⟨fun T t h => ?_, fun T t h1 h2 => ?_⟩
  · unfold envTy at h
    simp only at h
    split at h <;> first | (cases h; done) | (simp only [Option.some.injEq] at h; subst h; kernel_rfl)
  · unfold envEq at h1
    simp only at h1
    first | (cases h1; done) | (split at h1 <;> first | (cases h1; done) | (simp only [envTy, Option.some.injEq] at h2; subst h2; kernel_rfl))
theorem mixed : Try.prog.follows .mixedOrders = true := by kernel_rfl
noncomputable def body (o : Option Code) : Code := match o with | some c => c | none => .skip
noncomputable def lp0 : Loops := fun _ _ _ _ _ => none
noncomputable def loopAt (id : Nat) : Code → Option Code
  | .loop c => match firstId c with
    | some i => match Nat.beq i id with
      | true => some c
      | false => loopAt id c
    | none => loopAt id c
  | .seq a b => match loopAt id a with
    | some c => some c
    | none => loopAt id b
  | .cond _ a b => match loopAt id a with
    | some c => some c
    | none => loopAt id b
  | .block _ c => loopAt id c
  | .scope c => loopAt id c
  | _ => none
noncomputable def joinC (id : Nat) : Code → Option Code
  | .seq a b => match firstId b with
    | some i => match Nat.beq i id with
      | true => some a
      | false => match joinC id a with
        | some c => some c
        | none => joinC id b
    | none => match joinC id a with
      | some c => some c
      | none => joinC id b
  | .cond _ a b => match joinC id a with
    | some c => some c
    | none => joinC id b
  | .block _ c => joinC id c
  | .scope c => joinC id c
  | .loop c => joinC id c
  | _ => none

-- f44 slices.Clone[[]byte,byte]
noncomputable def env_slices_CloneU8 : Env := { ty := envTy, eq := envEq, gam := noG, n := Try.f44.ntmps }
noncomputable def p_slices_CloneU8 {R : Type} (a0 : List (Int)) (K : (List (Int)) → Option R) : Option R :=
  cond (List.isEmpty a0)
  (both
  (K ([] : List (Int)))
  (let v1 := List.replicate 0 (0 : Int)
  cond (decide (List.length v1 + List.length a0 ≤ most))
  (let v2 := v1 ++ a0
  K v2) none))
  (let v3 := List.replicate 0 (0 : Int)
  cond (decide (List.length v3 + List.length a0 ≤ most))
  (let v4 := v3 ++ a0
  K v4) none)
noncomputable def cs_slices_CloneU8 : CSpec := { ins := [(.val (.sl 5 (.int .u8)) .s)], outs := [((.sl 5 (.int .u8)), (.o .s))], fn := fun (d : (List (Int)) × Unit) K _ => p_slices_CloneU8 d.1 (fun r0 => K ((r0, ()) : (List (Int)) × Unit) ((()) : Unit)) }
theorem h_slices_CloneU8 : Holds Try.prog 44 cs_slices_CloneU8 := by
  refine holds_of (env := env_slices_CloneU8) (inl := inl0) (fn := Try.f44) (code := body Try.f44.body) (rs := [(2, none)]) (lp := lp0) mixed ⟨envTyOk.ty, envTyOk.eq⟩ (fun _ _ _ h => by cases h) inl0_ok Try.func44 (by kernel_rfl) (by kernel_rfl) (by kernel_rfl) (by kernel_rfl) (by kernel_rfl) (loopsOk_none (by kernel_rfl) (by kernel_rfl)) (by kernel_rfl) ?_
  intro d R K Kp res h
  have : evC env_slices_CloneU8 lp0 inl0 (body Try.f44.body) (St.start cs_slices_CloneU8.ins d) (retK env_slices_CloneU8 cs_slices_CloneU8.ins cs_slices_CloneU8.outs [(2, none)] cs_slices_CloneU8.pan K Kp) = cs_slices_CloneU8.fn d K Kp := by kernel_rfl
  rw [this]; exact h
-- f33 trammel/leb.PutU
noncomputable def gam_leb_PutU : FuncId → List FuncId → Option CSpec
  | 44, [] => some cs_slices_CloneU8
  | _, _ => none
noncomputable def env_leb_PutU : Env := { ty := envTy, eq := envEq, gam := gam_leb_PutU, n := Try.f33.ntmps }
theorem gamOk_leb_PutU : EnvFn Try.prog env_leb_PutU := by
  intro f gs c h
  unfold env_leb_PutU gam_leb_PutU at h
  simp only at h
  split at h <;> first | (cases h; done) | (cases h; exact h_slices_CloneU8)
structure X_leb_PutU_2 where
  f1 : Int
  f5 : List (Int)

noncomputable def B_leb_PutU_2 {R : Type} (k_exit_0 : Int → (List (Int)) → Option R) (rec : X_leb_PutU_2 → Option R) (x : X_leb_PutU_2) : Option R :=
  let v1 := decide (x.f1 ≥ (128 : Int))
  cond v1
  (let v2 := IntKind.u8.wrap x.f1
  let v3 := IntKind.u8.wrap ((BitVec.ofInt IntKind.u8.bits v2 ||| BitVec.ofInt IntKind.u8.bits (128 : Int)).toNat)
  let v4 := List.set (List.replicate 1 (0 : Int)) 0 v3
  cond (decide (List.length x.f5 + List.length v4 ≤ most))
  (let v5 := x.f5 ++ v4
  cond (decide (0 ≤ (7 : Int)))
  (let v6 := shrI .u64 x.f1 (7 : Int)
  rec ⟨v6, v5⟩) none) none)
  (k_exit_0 x.f1 x.f5)
noncomputable def S_leb_PutU_2 (x : X_leb_PutU_2) : St := St.ofList [(1, (.v (.int .u64) .s x.f1)), (5, (.v (.sl 5 (.int .u8)) (.o .s) x.f5))]
def out_leb_PutU_2 : Ex → List (Nat × Bool) | .exit 0 => [(1, false), (5, false)] | _ => []
noncomputable def fuel_leb_PutU_2 (x : X_leb_PutU_2) : Nat := fuel64
noncomputable def c_leb_PutU_2 : Code := match loopAt 2 (body Try.f33.body) with | some c => c | none => .skip
noncomputable def lp_leb_PutU : Loops := fun z i R st K => match z, i with
  | false, 2 => coerce [(1, false), (5, false)] st (fun st => mV (.int .u64) .s (st 1) fun y1 => mV (.sl 5 (.int .u8)) (.o .s) (st 5) fun y5 => loopN (B_leb_PutU_2 (fun e1 e5 => K (.exit 0) (St.ofList [(1, (.v (.int .u64) .s e1)), (5, (.v (.sl 5 (.int .u8)) (.o .s) e5))]))) (fuel_leb_PutU_2 ⟨y1, y5⟩) ⟨y1, y5⟩)
  | _, _ => none
theorem step_leb_PutU_2 (R : Type) (K : Ex → St → Option R) (rec : St → Option R) (x : X_leb_PutU_2) : evC env_leb_PutU lp_leb_PutU inl0 c_leb_PutU_2 (S_leb_PutU_2 x) (fun e st => match e with | .normal => coerce [(1, false), (5, false)] st rec | e => coerce (out_leb_PutU_2 e) st (K e)) = B_leb_PutU_2 (fun e1 e5 => K (.exit 0) (St.ofList [(1, (.v (.int .u64) .s e1)), (5, (.v (.sl 5 (.int .u8)) (.o .s) e5))])) (fun x => rec (S_leb_PutU_2 x)) x := by kernel_rfl
theorem ok_leb_PutU_2 : LoopOk env_leb_PutU lp_leb_PutU inl0 c_leb_PutU_2 := by
  refine loopOk_of (hd := [(1, false), (5, false)]) (out := out_leb_PutU_2) (S := S_leb_PutU_2) (fun _ K => B_leb_PutU_2 (fun e1 e5 => K (.exit 0) (St.ofList [(1, (.v (.int .u64) .s e1)), (5, (.v (.sl 5 (.int .u8)) (.o .s) e5))]))) fuel_leb_PutU_2 2 step_leb_PutU_2 (by kernel_rfl) (fun R K => fun st => mV (.int .u64) .s (st 1) fun y1 => mV (.sl 5 (.int .u8)) (.o .s) (st 5) fun y5 => loopN (B_leb_PutU_2 (fun e1 e5 => K (.exit 0) (St.ofList [(1, (.v (.int .u64) .s e1)), (5, (.v (.sl 5 (.int .u8)) (.o .s) e5))]))) (fuel_leb_PutU_2 ⟨y1, y5⟩) ⟨y1, y5⟩) (fun R st K => by kernel_rfl) ?_
  intro R K st r h
  obtain ⟨y1, hy1, h⟩ := mV_inv h
  obtain ⟨y5, hy5, h⟩ := mV_inv h
  exact ⟨⟨y1, y5⟩, only_of_list (ofList_cons hy1 (ofList_cons hy5 rfl)), h⟩
theorem loops_leb_PutU : LoopsOk env_leb_PutU lp_leb_PutU inl0 (body Try.f33.body) := by
  refine loopsOk_of (fun c hc => ?_) (fun c hc => ?_)
  · rw [show loopsL (body Try.f33.body) = [c_leb_PutU_2] by kernel_rfl] at hc
    simp only [List.mem_cons, List.not_mem_nil, or_false] at hc
    rcases hc with rfl
    · exact ok_leb_PutU_2
  · rw [show joinsL env_leb_PutU (body Try.f33.body) = [] by kernel_rfl] at hc; cases hc
noncomputable def p_leb_PutU {R : Type} (a0 : List (Int)) (a1 : Int) (K : (List (Int)) → Option R) : Option R :=
  p_slices_CloneU8 a0 fun r1 =>
  loopN (B_leb_PutU_2 (fun w2 w3 =>
  let v4 := IntKind.u8.wrap w2
  let v5 := List.set (List.replicate 1 (0 : Int)) 0 v4
  cond (decide (List.length w3 + List.length v5 ≤ most))
  (let v6 := w3 ++ v5
  K v6) none)) (fuel_leb_PutU_2 ⟨a1, r1⟩) ⟨a1, r1⟩
noncomputable def cs_leb_PutU : CSpec := { ins := [(.val (.sl 5 (.int .u8)) .s), (.val (.int .u64) .s)], outs := [((.sl 5 (.int .u8)), (.o .s))], fn := fun (d : (List (Int)) × Int × Unit) K _ => p_leb_PutU d.1 d.2.1 (fun r0 => K ((r0, ()) : (List (Int)) × Unit) ((()) : Unit)) }
theorem h_leb_PutU : Holds Try.prog 33 cs_leb_PutU := by
  refine holds_of (env := env_leb_PutU) (inl := inl0) (fn := Try.f33) (code := body Try.f33.body) (rs := [(4, none)]) (lp := lp_leb_PutU) mixed ⟨envTyOk.ty, envTyOk.eq⟩ gamOk_leb_PutU inl0_ok Try.func33 (by kernel_rfl) (by kernel_rfl) (by kernel_rfl) (by kernel_rfl) (by kernel_rfl) loops_leb_PutU (by kernel_rfl) ?_
  intro d R K Kp res h
  have : evC env_leb_PutU lp_leb_PutU inl0 (body Try.f33.body) (St.start cs_leb_PutU.ins d) (retK env_leb_PutU cs_leb_PutU.ins cs_leb_PutU.outs [(4, none)] cs_leb_PutU.pan K Kp) = cs_leb_PutU.fn d K Kp := by kernel_rfl
  rw [this]; exact h
-- REFUSED f36 trammel/cert.Put$1: rdP un
-- f75 trammel/ivl.Right
noncomputable def env_ivl_Right : Env := { ty := envTy, eq := envEq, gam := noG, n := Try.f75.ntmps }
noncomputable def p_ivl_Right {R : Type} (a0 : (Int) × (Int) × Unit) (K : Bool → Option R) : Option R :=
  let v1 := decide (a0.1 ≤ a0.2.1)
  K v1
noncomputable def cs_ivl_Right : CSpec := { ins := [(.val (.pair (.int .u64) (.pair (.int .u64) .unit)) .s)], outs := [(.bool, .s)], fn := fun (d : ((Int) × (Int) × Unit) × Unit) K _ => p_ivl_Right d.1 (fun r0 => K ((r0, ()) : Bool × Unit) ((()) : Unit)) }
theorem h_ivl_Right : Holds Try.prog 75 cs_ivl_Right := by
  refine holds_of (env := env_ivl_Right) (inl := inl0) (fn := Try.f75) (code := body Try.f75.body) (rs := [(2, none)]) (lp := lp0) mixed ⟨envTyOk.ty, envTyOk.eq⟩ (fun _ _ _ h => by cases h) inl0_ok Try.func75 (by kernel_rfl) (by kernel_rfl) (by kernel_rfl) (by kernel_rfl) (by kernel_rfl) (loopsOk_none (by kernel_rfl) (by kernel_rfl)) (by kernel_rfl) ?_
  intro d R K Kp res h
  have : evC env_ivl_Right lp0 inl0 (body Try.f75.body) (St.start cs_ivl_Right.ins d) (retK env_ivl_Right cs_ivl_Right.ins cs_ivl_Right.outs [(2, none)] cs_ivl_Right.pan K Kp) = cs_ivl_Right.fn d K Kp := by kernel_rfl
  rw [this]; exact h
-- f84 trammel/low.mask
noncomputable def env_low_mask : Env := { ty := envTy, eq := envEq, gam := noG, n := Try.f84.ntmps }
noncomputable def p_low_mask {R : Type} (a0 : Int) (K : Int → Option R) : Option R :=
  let v1 := decide (a0 ≥ (64 : Int))
  cond v1
  (K (18446744073709551615 : Int))
  (let v2 := maxI a0 (0 : Int)
  let v3 := IntKind.u64.wrap v2
  cond (decide (0 ≤ v3))
  (let v4 := shlI .u64 (1 : Int) v3
  let v5 := IntKind.u64.wrap (v4 - (1 : Int))
  K v5) none)
noncomputable def cs_low_mask : CSpec := { ins := [(.val (.int .i64) .s)], outs := [((.int .u64), .s)], fn := fun (d : Int × Unit) K _ => p_low_mask d.1 (fun r0 => K ((r0, ()) : Int × Unit) ((()) : Unit)) }
theorem h_low_mask : Holds Try.prog 84 cs_low_mask := by
  refine holds_of (env := env_low_mask) (inl := inl0) (fn := Try.f84) (code := body Try.f84.body) (rs := [(2, none)]) (lp := lp0) mixed ⟨envTyOk.ty, envTyOk.eq⟩ (fun _ _ _ h => by cases h) inl0_ok Try.func84 (by kernel_rfl) (by kernel_rfl) (by kernel_rfl) (by kernel_rfl) (by kernel_rfl) (loopsOk_none (by kernel_rfl) (by kernel_rfl)) (by kernel_rfl) ?_
  intro d R K Kp res h
  have : evC env_low_mask lp0 inl0 (body Try.f84.body) (St.start cs_low_mask.ins d) (retK env_low_mask cs_low_mask.ins cs_low_mask.outs [(2, none)] cs_low_mask.pan K Kp) = cs_low_mask.fn d K Kp := by kernel_rfl
  rw [this]; exact h
-- f76 trammel/low.Right
noncomputable def gam_low_Right : FuncId → List FuncId → Option CSpec
  | 84, [] => some cs_low_mask
  | _, _ => none
noncomputable def env_low_Right : Env := { ty := envTy, eq := envEq, gam := gam_low_Right, n := Try.f76.ntmps }
theorem gamOk_low_Right : EnvFn Try.prog env_low_Right := by
  intro f gs c h
  unfold env_low_Right gam_low_Right at h
  simp only at h
  split at h <;> first | (cases h; done) | (cases h; exact h_low_mask)
noncomputable def p_low_Right {R : Type} (a0 : (Int) × (Int) × Unit) (K : Bool → Option R) : Option R :=
  let v1 := decide (a0.1 ≥ (0 : Int))
  cond v1
  (let v2 := decide (a0.1 ≤ (64 : Int))
  cond v2
  (both
  (p_low_mask a0.1 fun r3 =>
  let v4 := IntKind.u64.wrap ((BitVec.ofInt IntKind.u64.bits a0.2.1 &&& ~~~(BitVec.ofInt IntKind.u64.bits r3)).toNat)
  let v5 := v4 == (0 : Int)
  K v5)
  (both
  (p_low_mask a0.1 fun r6 =>
  let v7 := IntKind.u64.wrap ((BitVec.ofInt IntKind.u64.bits a0.2.1 &&& ~~~(BitVec.ofInt IntKind.u64.bits r6)).toNat)
  let v8 := v7 == (0 : Int)
  K v8)
  (p_low_mask a0.1 fun r9 =>
  let v10 := IntKind.u64.wrap ((BitVec.ofInt IntKind.u64.bits a0.2.1 &&& ~~~(BitVec.ofInt IntKind.u64.bits r9)).toNat)
  let v11 := v10 == (0 : Int)
  K v11)))
  (K false))
  (K false)
noncomputable def cs_low_Right : CSpec := { ins := [(.val (.pair (.int .i64) (.pair (.int .u64) .unit)) .s)], outs := [(.bool, .s)], fn := fun (d : ((Int) × (Int) × Unit) × Unit) K _ => p_low_Right d.1 (fun r0 => K ((r0, ()) : Bool × Unit) ((()) : Unit)) }
theorem h_low_Right : Holds Try.prog 76 cs_low_Right := by
  refine holds_of (env := env_low_Right) (inl := inl0) (fn := Try.f76) (code := body Try.f76.body) (rs := [(2, none)]) (lp := lp0) mixed ⟨envTyOk.ty, envTyOk.eq⟩ gamOk_low_Right inl0_ok Try.func76 (by kernel_rfl) (by kernel_rfl) (by kernel_rfl) (by kernel_rfl) (by kernel_rfl) (loopsOk_none (by kernel_rfl) (by kernel_rfl)) (by kernel_rfl) ?_
  intro d R K Kp res h
  have : evC env_low_Right lp0 inl0 (body Try.f76.body) (St.start cs_low_Right.ins d) (retK env_low_Right cs_low_Right.ins cs_low_Right.outs [(2, none)] cs_low_Right.pan K Kp) = cs_low_Right.fn d K Kp := by kernel_rfl
  rw [this]; exact h
-- f37 trammel/abs.Right
noncomputable def gam_abs_Right : FuncId → List FuncId → Option CSpec
  | 75, [] => some cs_ivl_Right
  | 76, [] => some cs_low_Right
  | _, _ => none
noncomputable def env_abs_Right : Env := { ty := envTy, eq := envEq, gam := gam_abs_Right, n := Try.f37.ntmps }
theorem gamOk_abs_Right : EnvFn Try.prog env_abs_Right := by
  intro f gs c h
  unfold env_abs_Right gam_abs_Right at h
  simp only at h
  split at h <;> first | (cases h; done) | (cases h; exact h_ivl_Right) | (cases h; exact h_low_Right)
noncomputable def p_abs_Right {R : Type} (a0 : ((Int) × (Int) × Unit) × ((Int) × (Int) × Unit) × Unit) (K : Bool → Option R) : Option R :=
  p_ivl_Right a0.1 fun r1 =>
  cond r1
  (p_low_Right a0.2.1 fun r2 =>
  K r2)
  (K false)
noncomputable def cs_abs_Right : CSpec := { ins := [(.val Ty0 .s)], outs := [(.bool, .s)], fn := fun (d : (((Int) × (Int) × Unit) × ((Int) × (Int) × Unit) × Unit) × Unit) K _ => p_abs_Right d.1 (fun r0 => K ((r0, ()) : Bool × Unit) ((()) : Unit)) }
theorem h_abs_Right : Holds Try.prog 37 cs_abs_Right := by
  refine holds_of (env := env_abs_Right) (inl := inl0) (fn := Try.f37) (code := body Try.f37.body) (rs := [(2, none)]) (lp := lp0) mixed ⟨envTyOk.ty, envTyOk.eq⟩ gamOk_abs_Right inl0_ok Try.func37 (by kernel_rfl) (by kernel_rfl) (by kernel_rfl) (by kernel_rfl) (by kernel_rfl) (loopsOk_none (by kernel_rfl) (by kernel_rfl)) (by kernel_rfl) ?_
  intro d R K Kp res h
  have : evC env_abs_Right lp0 inl0 (body Try.f37.body) (St.start cs_abs_Right.ins d) (retK env_abs_Right cs_abs_Right.ins cs_abs_Right.outs [(2, none)] cs_abs_Right.pan K Kp) = cs_abs_Right.fn d K Kp := by kernel_rfl
  rw [this]; exact h
-- f16 trammel/cert.Put
noncomputable def gam_cert_Putx0 : FuncId → List FuncId → Option CSpec
  | 33, [] => some cs_leb_PutU
  | _, _ => none
noncomputable def il_cert_Putx0 : Nat → Bool
  | 36 => true
  | _ => false
noncomputable def lv_cert_Putx0 : Nat → Option (List Nat)
  | 0 => some [4, 5, 6, 8, 21, 22, 23, 39, 99, 100]
  | 1 => some [4, 5, 6, 8, 21, 22, 23, 39, 100, 104, 105, 106]
  | 2 => some [4, 5, 6, 8, 21, 22, 23, 39, 100, 104, 105, 106]
  | 3 => some [4, 5, 6, 8, 21, 22, 23, 39, 100, 103, 104, 105, 106]
  | 4 => some [4, 5, 6, 8, 21, 22, 23, 39, 100, 104, 105, 106]
  | _ => none
noncomputable def env_cert_Putx0 : Env := { ty := envTy, eq := envEq, gam := gam_cert_Putx0, n := Try.f36.ntmps, il := il_cert_Putx0, lv := lv_cert_Putx0, b := 99 }
theorem gamOk_cert_Putx0 : EnvFn Try.prog env_cert_Putx0 := by
  intro f gs c h
  unfold env_cert_Putx0 gam_cert_Putx0 at h
  simp only at h
  split at h <;> first | (cases h; done) | (cases h; exact h_leb_PutU)
structure X_cert_Putx0_1 where
  f4 : Bool
  f5 : List (Int)
  f8 : It1
  f21 : List (It1)
  f22 : Int
  f23 : Int
  f39 : List (Int)
  f105 : Int
  f106 : Int

noncomputable def B_cert_Putx0_1 {R : Type} (k_exit_0 : Bool → (List (Int)) → It1 → (List (It1)) → Int → Int → Option R) (rec : X_cert_Putx0_1 → Option R) (x : X_cert_Putx0_1) : Option R :=
  let v1 := decide (x.f106 < x.f105)
  cond v1
  (cond (inB x.f106 (List.length x.f39))
  (let v2 := (List.getD x.f39 x.f106.toNat (0 : Int))
  p_leb_PutU x.f5 v2 fun r3 =>
  let v4 := IntKind.i64.wrap (x.f106 + (1 : Int))
  rec ⟨x.f4, r3, x.f8, x.f21, x.f22, x.f23, x.f39, x.f105, v4⟩) none)
  (k_exit_0 x.f4 x.f5 x.f8 x.f21 x.f22 x.f23)
noncomputable def S_cert_Putx0_1 (x : X_cert_Putx0_1) : St := St.ofList [(4, (.v .bool .s x.f4)), (5, (.v (.ptr 22 (.sl 5 (.int .u8))) (.o (.o .s)) (some x.f5))), (6, (.fn 36 [] [(5, [.der])])), (8, (.v (.ptr 89 (.pair (.sl 86 (.sl 85 Ty0)) .unit)) .s (some x.f8))), (21, (.v (.sl 89 (.pair (.sl 86 (.sl 85 Ty0)) .unit)) .s x.f21)), (22, (.v (.int .i64) .s x.f22)), (23, (.v (.int .i64) .s x.f23)), (39, (.v (.sl 75 (.int .u64)) (.o .s) x.f39)), (100, (.al 5 [.der])), (104, (.lz 39 [])), (105, (.v (.int .i64) .s x.f105)), (106, (.v (.int .i64) .s x.f106))]
def out_cert_Putx0_1 : Ex → List (Nat × Bool) | .exit 0 => [(4, false), (5, false), (6, false), (8, false), (21, false), (22, false), (23, false)] | _ => []
noncomputable def fuel_cert_Putx0_1 (x : X_cert_Putx0_1) : Nat := fuel64
noncomputable def c_cert_Putx0_1 : Code := match loopAt 1 (body Try.f36.body) with | some c => c | none => .skip
noncomputable def lp_cert_Putx0 : Loops := fun z i R st K => match z, i with
  | false, 1 => coerce [(4, false), (5, false), (6, false), (8, false), (21, false), (22, false), (23, false), (39, false), (100, false), (104, false), (105, false), (106, false)] st (fun st => mV .bool .s (st 4) fun y4 => mP 22 (.sl 5 (.int .u8)) (.o (.o .s)) (st 5) fun y5 => mFn 36 [] [(5, [.der])] (st 6) (mP 89 (.pair (.sl 86 (.sl 85 Ty0)) .unit) .s (st 8) fun y8 => mV (.sl 89 (.pair (.sl 86 (.sl 85 Ty0)) .unit)) .s (st 21) fun y21 => mV (.int .i64) .s (st 22) fun y22 => mV (.int .i64) .s (st 23) fun y23 => mV (.sl 75 (.int .u64)) (.o .s) (st 39) fun y39 => mAl 5 [.der] (st 100) (mLz 39 [] (st 104) (mV (.int .i64) .s (st 105) fun y105 => mV (.int .i64) .s (st 106) fun y106 => loopN (B_cert_Putx0_1 (fun e4 e5 e8 e21 e22 e23 => K (.exit 0) (St.ofList [(4, (.v .bool .s e4)), (5, (.v (.ptr 22 (.sl 5 (.int .u8))) (.o (.o .s)) (some e5))), (6, (.fn 36 [] [(5, [.der])])), (8, (.v (.ptr 89 (.pair (.sl 86 (.sl 85 Ty0)) .unit)) .s (some e8))), (21, (.v (.sl 89 (.pair (.sl 86 (.sl 85 Ty0)) .unit)) .s e21)), (22, (.v (.int .i64) .s e22)), (23, (.v (.int .i64) .s e23))]))) (fuel_cert_Putx0_1 ⟨y4, y5, y8, y21, y22, y23, y39, y105, y106⟩) ⟨y4, y5, y8, y21, y22, y23, y39, y105, y106⟩))))
  | _, _ => none
theorem step_cert_Putx0_1 (R : Type) (K : Ex → St → Option R) (rec : St → Option R) (x : X_cert_Putx0_1) : evC env_cert_Putx0 lp_cert_Putx0 inl0 c_cert_Putx0_1 (S_cert_Putx0_1 x) (fun e st => match e with | .normal => coerce [(4, false), (5, false), (6, false), (8, false), (21, false), (22, false), (23, false), (39, false), (100, false), (104, false), (105, false), (106, false)] st rec | e => coerce (out_cert_Putx0_1 e) st (K e)) = B_cert_Putx0_1 (fun e4 e5 e8 e21 e22 e23 => K (.exit 0) (St.ofList [(4, (.v .bool .s e4)), (5, (.v (.ptr 22 (.sl 5 (.int .u8))) (.o (.o .s)) (some e5))), (6, (.fn 36 [] [(5, [.der])])), (8, (.v (.ptr 89 (.pair (.sl 86 (.sl 85 Ty0)) .unit)) .s (some e8))), (21, (.v (.sl 89 (.pair (.sl 86 (.sl 85 Ty0)) .unit)) .s e21)), (22, (.v (.int .i64) .s e22)), (23, (.v (.int .i64) .s e23))])) (fun x => rec (S_cert_Putx0_1 x)) x := by kernel_rfl
theorem ok_cert_Putx0_1 : LoopOk env_cert_Putx0 lp_cert_Putx0 inl0 c_cert_Putx0_1 := by
  refine loopOk_of (hd := [(4, false), (5, false), (6, false), (8, false), (21, false), (22, false), (23, false), (39, false), (100, false), (104, false), (105, false), (106, false)]) (out := out_cert_Putx0_1) (S := S_cert_Putx0_1) (fun _ K => B_cert_Putx0_1 (fun e4 e5 e8 e21 e22 e23 => K (.exit 0) (St.ofList [(4, (.v .bool .s e4)), (5, (.v (.ptr 22 (.sl 5 (.int .u8))) (.o (.o .s)) (some e5))), (6, (.fn 36 [] [(5, [.der])])), (8, (.v (.ptr 89 (.pair (.sl 86 (.sl 85 Ty0)) .unit)) .s (some e8))), (21, (.v (.sl 89 (.pair (.sl 86 (.sl 85 Ty0)) .unit)) .s e21)), (22, (.v (.int .i64) .s e22)), (23, (.v (.int .i64) .s e23))]))) fuel_cert_Putx0_1 1 step_cert_Putx0_1 (by kernel_rfl) (fun R K => fun st => mV .bool .s (st 4) fun y4 => mP 22 (.sl 5 (.int .u8)) (.o (.o .s)) (st 5) fun y5 => mFn 36 [] [(5, [.der])] (st 6) (mP 89 (.pair (.sl 86 (.sl 85 Ty0)) .unit) .s (st 8) fun y8 => mV (.sl 89 (.pair (.sl 86 (.sl 85 Ty0)) .unit)) .s (st 21) fun y21 => mV (.int .i64) .s (st 22) fun y22 => mV (.int .i64) .s (st 23) fun y23 => mV (.sl 75 (.int .u64)) (.o .s) (st 39) fun y39 => mAl 5 [.der] (st 100) (mLz 39 [] (st 104) (mV (.int .i64) .s (st 105) fun y105 => mV (.int .i64) .s (st 106) fun y106 => loopN (B_cert_Putx0_1 (fun e4 e5 e8 e21 e22 e23 => K (.exit 0) (St.ofList [(4, (.v .bool .s e4)), (5, (.v (.ptr 22 (.sl 5 (.int .u8))) (.o (.o .s)) (some e5))), (6, (.fn 36 [] [(5, [.der])])), (8, (.v (.ptr 89 (.pair (.sl 86 (.sl 85 Ty0)) .unit)) .s (some e8))), (21, (.v (.sl 89 (.pair (.sl 86 (.sl 85 Ty0)) .unit)) .s e21)), (22, (.v (.int .i64) .s e22)), (23, (.v (.int .i64) .s e23))]))) (fuel_cert_Putx0_1 ⟨y4, y5, y8, y21, y22, y23, y39, y105, y106⟩) ⟨y4, y5, y8, y21, y22, y23, y39, y105, y106⟩)))) (fun R st K => by kernel_rfl) ?_
  intro R K st r h
  obtain ⟨y4, hy4, h⟩ := mV_inv h
  obtain ⟨y5, hy5, h⟩ := mP_inv h
  obtain ⟨hy6, h⟩ := mFn_inv h
  obtain ⟨y8, hy8, h⟩ := mP_inv h
  obtain ⟨y21, hy21, h⟩ := mV_inv h
  obtain ⟨y22, hy22, h⟩ := mV_inv h
  obtain ⟨y23, hy23, h⟩ := mV_inv h
  obtain ⟨y39, hy39, h⟩ := mV_inv h
  obtain ⟨hy100, h⟩ := mAl_inv h
  obtain ⟨hy104, h⟩ := mLz_inv h
  obtain ⟨y105, hy105, h⟩ := mV_inv h
  obtain ⟨y106, hy106, h⟩ := mV_inv h
  exact ⟨⟨y4, y5, y8, y21, y22, y23, y39, y105, y106⟩, only_of_list (ofList_cons hy4 (ofList_cons hy5 (ofList_cons hy6 (ofList_cons hy8 (ofList_cons hy21 (ofList_cons hy22 (ofList_cons hy23 (ofList_cons hy39 (ofList_cons hy100 (ofList_cons hy104 (ofList_cons hy105 (ofList_cons hy106 rfl)))))))))))), h⟩
theorem loops_cert_Putx0 : LoopsOk env_cert_Putx0 lp_cert_Putx0 inl0 (body Try.f36.body) := by
  refine loopsOk_of (fun c hc => ?_) (fun c hc => ?_)
  · rw [show loopsL (body Try.f36.body) = [c_cert_Putx0_1] by kernel_rfl] at hc
    simp only [List.mem_cons, List.not_mem_nil, or_false] at hc
    rcases hc with rfl
    · exact ok_cert_Putx0_1
  · rw [show joinsL env_cert_Putx0 (body Try.f36.body) = [] by kernel_rfl] at hc; cases hc
theorem inlF_cert_Putx0 : InlF Try.prog env_cert_Putx0.b 36 (fun R st xs K Kp => match Nat.ble xs.length env_cert_Putx0.n with | true => evC env_cert_Putx0 lp_cert_Putx0 inl0 (body Try.f36.body) (st.enter env_cert_Putx0.b xs) (inlK env_cert_Putx0 [] K Kp) | false => none) :=
  inlF_of mixed ⟨envTyOk.ty, envTyOk.eq⟩ gamOk_cert_Putx0 inl0_ok Try.func36 (by kernel_rfl) (by kernel_rfl) (by kernel_rfl) (by kernel_rfl) (by kernel_rfl) loops_cert_Putx0 (by kernel_rfl)
noncomputable def gam_cert_Putx1 : FuncId → List FuncId → Option CSpec
  | 33, [] => some cs_leb_PutU
  | _, _ => none
noncomputable def il_cert_Putx1 : Nat → Bool
  | 36 => true
  | _ => false
noncomputable def lv_cert_Putx1 : Nat → Option (List Nat)
  | 0 => some [4, 5, 6, 10, 21, 22, 23, 42, 43, 44, 58, 99, 100]
  | 1 => some [4, 5, 6, 10, 21, 22, 23, 42, 43, 44, 58, 100, 104, 105, 106]
  | 2 => some [4, 5, 6, 10, 21, 22, 23, 42, 43, 44, 58, 100, 104, 105, 106]
  | 3 => some [4, 5, 6, 10, 21, 22, 23, 42, 43, 44, 58, 100, 103, 104, 105, 106]
  | 4 => some [4, 5, 6, 10, 21, 22, 23, 42, 43, 44, 58, 100, 104, 105, 106]
  | _ => none
noncomputable def env_cert_Putx1 : Env := { ty := envTy, eq := envEq, gam := gam_cert_Putx1, n := Try.f36.ntmps, il := il_cert_Putx1, lv := lv_cert_Putx1, b := 99 }
theorem gamOk_cert_Putx1 : EnvFn Try.prog env_cert_Putx1 := by
  intro f gs c h
  unfold env_cert_Putx1 gam_cert_Putx1 at h
  simp only at h
  split at h <;> first | (cases h; done) | (cases h; exact h_leb_PutU)
structure X_cert_Putx1_1 where
  f4 : Bool
  f5 : List (Int)
  f10 : List (((Int) × (Int) × Unit) × ((Int) × (Int) × Unit) × Unit)
  f21 : List (It1)
  f22 : Int
  f23 : Int
  f42 : List (List (((Int) × (Int) × Unit) × ((Int) × (Int) × Unit) × Unit))
  f43 : Int
  f44 : Int
  f58 : List (Int)
  f105 : Int
  f106 : Int

noncomputable def B_cert_Putx1_1 {R : Type} (k_exit_0 : Bool → (List (Int)) → (List (((Int) × (Int) × Unit) × ((Int) × (Int) × Unit) × Unit)) → (List (It1)) → Int → Int → (List (List (((Int) × (Int) × Unit) × ((Int) × (Int) × Unit) × Unit))) → Int → Int → Option R) (rec : X_cert_Putx1_1 → Option R) (x : X_cert_Putx1_1) : Option R :=
  let v1 := decide (x.f106 < x.f105)
  cond v1
  (cond (inB x.f106 (List.length x.f58))
  (let v2 := (List.getD x.f58 x.f106.toNat (0 : Int))
  p_leb_PutU x.f5 v2 fun r3 =>
  let v4 := IntKind.i64.wrap (x.f106 + (1 : Int))
  rec ⟨x.f4, r3, x.f10, x.f21, x.f22, x.f23, x.f42, x.f43, x.f44, x.f58, x.f105, v4⟩) none)
  (k_exit_0 x.f4 x.f5 x.f10 x.f21 x.f22 x.f23 x.f42 x.f43 x.f44)
noncomputable def S_cert_Putx1_1 (x : X_cert_Putx1_1) : St := St.ofList [(4, (.v .bool .s x.f4)), (5, (.v (.ptr 22 (.sl 5 (.int .u8))) (.o (.o .s)) (some x.f5))), (6, (.fn 36 [] [(5, [.der])])), (10, (.v (.sl 85 Ty0) .s x.f10)), (21, (.v (.sl 89 (.pair (.sl 86 (.sl 85 Ty0)) .unit)) .s x.f21)), (22, (.v (.int .i64) .s x.f22)), (23, (.v (.int .i64) .s x.f23)), (42, (.v (.sl 86 (.sl 85 Ty0)) .s x.f42)), (43, (.v (.int .i64) .s x.f43)), (44, (.v (.int .i64) .s x.f44)), (58, (.v (.sl 75 (.int .u64)) (.o .s) x.f58)), (100, (.al 5 [.der])), (104, (.lz 58 [])), (105, (.v (.int .i64) .s x.f105)), (106, (.v (.int .i64) .s x.f106))]
def out_cert_Putx1_1 : Ex → List (Nat × Bool) | .exit 0 => [(4, false), (5, false), (6, false), (10, false), (21, false), (22, false), (23, false), (42, false), (43, false), (44, false)] | _ => []
noncomputable def fuel_cert_Putx1_1 (x : X_cert_Putx1_1) : Nat := fuel64
noncomputable def c_cert_Putx1_1 : Code := match loopAt 1 (body Try.f36.body) with | some c => c | none => .skip
noncomputable def lp_cert_Putx1 : Loops := fun z i R st K => match z, i with
  | false, 1 => coerce [(4, false), (5, false), (6, false), (10, false), (21, false), (22, false), (23, false), (42, false), (43, false), (44, false), (58, false), (100, false), (104, false), (105, false), (106, false)] st (fun st => mV .bool .s (st 4) fun y4 => mP 22 (.sl 5 (.int .u8)) (.o (.o .s)) (st 5) fun y5 => mFn 36 [] [(5, [.der])] (st 6) (mV (.sl 85 Ty0) .s (st 10) fun y10 => mV (.sl 89 (.pair (.sl 86 (.sl 85 Ty0)) .unit)) .s (st 21) fun y21 => mV (.int .i64) .s (st 22) fun y22 => mV (.int .i64) .s (st 23) fun y23 => mV (.sl 86 (.sl 85 Ty0)) .s (st 42) fun y42 => mV (.int .i64) .s (st 43) fun y43 => mV (.int .i64) .s (st 44) fun y44 => mV (.sl 75 (.int .u64)) (.o .s) (st 58) fun y58 => mAl 5 [.der] (st 100) (mLz 58 [] (st 104) (mV (.int .i64) .s (st 105) fun y105 => mV (.int .i64) .s (st 106) fun y106 => loopN (B_cert_Putx1_1 (fun e4 e5 e10 e21 e22 e23 e42 e43 e44 => K (.exit 0) (St.ofList [(4, (.v .bool .s e4)), (5, (.v (.ptr 22 (.sl 5 (.int .u8))) (.o (.o .s)) (some e5))), (6, (.fn 36 [] [(5, [.der])])), (10, (.v (.sl 85 Ty0) .s e10)), (21, (.v (.sl 89 (.pair (.sl 86 (.sl 85 Ty0)) .unit)) .s e21)), (22, (.v (.int .i64) .s e22)), (23, (.v (.int .i64) .s e23)), (42, (.v (.sl 86 (.sl 85 Ty0)) .s e42)), (43, (.v (.int .i64) .s e43)), (44, (.v (.int .i64) .s e44))]))) (fuel_cert_Putx1_1 ⟨y4, y5, y10, y21, y22, y23, y42, y43, y44, y58, y105, y106⟩) ⟨y4, y5, y10, y21, y22, y23, y42, y43, y44, y58, y105, y106⟩))))
  | _, _ => none
theorem step_cert_Putx1_1 (R : Type) (K : Ex → St → Option R) (rec : St → Option R) (x : X_cert_Putx1_1) : evC env_cert_Putx1 lp_cert_Putx1 inl0 c_cert_Putx1_1 (S_cert_Putx1_1 x) (fun e st => match e with | .normal => coerce [(4, false), (5, false), (6, false), (10, false), (21, false), (22, false), (23, false), (42, false), (43, false), (44, false), (58, false), (100, false), (104, false), (105, false), (106, false)] st rec | e => coerce (out_cert_Putx1_1 e) st (K e)) = B_cert_Putx1_1 (fun e4 e5 e10 e21 e22 e23 e42 e43 e44 => K (.exit 0) (St.ofList [(4, (.v .bool .s e4)), (5, (.v (.ptr 22 (.sl 5 (.int .u8))) (.o (.o .s)) (some e5))), (6, (.fn 36 [] [(5, [.der])])), (10, (.v (.sl 85 Ty0) .s e10)), (21, (.v (.sl 89 (.pair (.sl 86 (.sl 85 Ty0)) .unit)) .s e21)), (22, (.v (.int .i64) .s e22)), (23, (.v (.int .i64) .s e23)), (42, (.v (.sl 86 (.sl 85 Ty0)) .s e42)), (43, (.v (.int .i64) .s e43)), (44, (.v (.int .i64) .s e44))])) (fun x => rec (S_cert_Putx1_1 x)) x := by kernel_rfl
theorem ok_cert_Putx1_1 : LoopOk env_cert_Putx1 lp_cert_Putx1 inl0 c_cert_Putx1_1 := by
  refine loopOk_of (hd := [(4, false), (5, false), (6, false), (10, false), (21, false), (22, false), (23, false), (42, false), (43, false), (44, false), (58, false), (100, false), (104, false), (105, false), (106, false)]) (out := out_cert_Putx1_1) (S := S_cert_Putx1_1) (fun _ K => B_cert_Putx1_1 (fun e4 e5 e10 e21 e22 e23 e42 e43 e44 => K (.exit 0) (St.ofList [(4, (.v .bool .s e4)), (5, (.v (.ptr 22 (.sl 5 (.int .u8))) (.o (.o .s)) (some e5))), (6, (.fn 36 [] [(5, [.der])])), (10, (.v (.sl 85 Ty0) .s e10)), (21, (.v (.sl 89 (.pair (.sl 86 (.sl 85 Ty0)) .unit)) .s e21)), (22, (.v (.int .i64) .s e22)), (23, (.v (.int .i64) .s e23)), (42, (.v (.sl 86 (.sl 85 Ty0)) .s e42)), (43, (.v (.int .i64) .s e43)), (44, (.v (.int .i64) .s e44))]))) fuel_cert_Putx1_1 1 step_cert_Putx1_1 (by kernel_rfl) (fun R K => fun st => mV .bool .s (st 4) fun y4 => mP 22 (.sl 5 (.int .u8)) (.o (.o .s)) (st 5) fun y5 => mFn 36 [] [(5, [.der])] (st 6) (mV (.sl 85 Ty0) .s (st 10) fun y10 => mV (.sl 89 (.pair (.sl 86 (.sl 85 Ty0)) .unit)) .s (st 21) fun y21 => mV (.int .i64) .s (st 22) fun y22 => mV (.int .i64) .s (st 23) fun y23 => mV (.sl 86 (.sl 85 Ty0)) .s (st 42) fun y42 => mV (.int .i64) .s (st 43) fun y43 => mV (.int .i64) .s (st 44) fun y44 => mV (.sl 75 (.int .u64)) (.o .s) (st 58) fun y58 => mAl 5 [.der] (st 100) (mLz 58 [] (st 104) (mV (.int .i64) .s (st 105) fun y105 => mV (.int .i64) .s (st 106) fun y106 => loopN (B_cert_Putx1_1 (fun e4 e5 e10 e21 e22 e23 e42 e43 e44 => K (.exit 0) (St.ofList [(4, (.v .bool .s e4)), (5, (.v (.ptr 22 (.sl 5 (.int .u8))) (.o (.o .s)) (some e5))), (6, (.fn 36 [] [(5, [.der])])), (10, (.v (.sl 85 Ty0) .s e10)), (21, (.v (.sl 89 (.pair (.sl 86 (.sl 85 Ty0)) .unit)) .s e21)), (22, (.v (.int .i64) .s e22)), (23, (.v (.int .i64) .s e23)), (42, (.v (.sl 86 (.sl 85 Ty0)) .s e42)), (43, (.v (.int .i64) .s e43)), (44, (.v (.int .i64) .s e44))]))) (fuel_cert_Putx1_1 ⟨y4, y5, y10, y21, y22, y23, y42, y43, y44, y58, y105, y106⟩) ⟨y4, y5, y10, y21, y22, y23, y42, y43, y44, y58, y105, y106⟩)))) (fun R st K => by kernel_rfl) ?_
  intro R K st r h
  obtain ⟨y4, hy4, h⟩ := mV_inv h
  obtain ⟨y5, hy5, h⟩ := mP_inv h
  obtain ⟨hy6, h⟩ := mFn_inv h
  obtain ⟨y10, hy10, h⟩ := mV_inv h
  obtain ⟨y21, hy21, h⟩ := mV_inv h
  obtain ⟨y22, hy22, h⟩ := mV_inv h
  obtain ⟨y23, hy23, h⟩ := mV_inv h
  obtain ⟨y42, hy42, h⟩ := mV_inv h
  obtain ⟨y43, hy43, h⟩ := mV_inv h
  obtain ⟨y44, hy44, h⟩ := mV_inv h
  obtain ⟨y58, hy58, h⟩ := mV_inv h
  obtain ⟨hy100, h⟩ := mAl_inv h
  obtain ⟨hy104, h⟩ := mLz_inv h
  obtain ⟨y105, hy105, h⟩ := mV_inv h
  obtain ⟨y106, hy106, h⟩ := mV_inv h
  exact ⟨⟨y4, y5, y10, y21, y22, y23, y42, y43, y44, y58, y105, y106⟩, only_of_list (ofList_cons hy4 (ofList_cons hy5 (ofList_cons hy6 (ofList_cons hy10 (ofList_cons hy21 (ofList_cons hy22 (ofList_cons hy23 (ofList_cons hy42 (ofList_cons hy43 (ofList_cons hy44 (ofList_cons hy58 (ofList_cons hy100 (ofList_cons hy104 (ofList_cons hy105 (ofList_cons hy106 rfl))))))))))))))), h⟩
theorem loops_cert_Putx1 : LoopsOk env_cert_Putx1 lp_cert_Putx1 inl0 (body Try.f36.body) := by
  refine loopsOk_of (fun c hc => ?_) (fun c hc => ?_)
  · rw [show loopsL (body Try.f36.body) = [c_cert_Putx1_1] by kernel_rfl] at hc
    simp only [List.mem_cons, List.not_mem_nil, or_false] at hc
    rcases hc with rfl
    · exact ok_cert_Putx1_1
  · rw [show joinsL env_cert_Putx1 (body Try.f36.body) = [] by kernel_rfl] at hc; cases hc
theorem inlF_cert_Putx1 : InlF Try.prog env_cert_Putx1.b 36 (fun R st xs K Kp => match Nat.ble xs.length env_cert_Putx1.n with | true => evC env_cert_Putx1 lp_cert_Putx1 inl0 (body Try.f36.body) (st.enter env_cert_Putx1.b xs) (inlK env_cert_Putx1 [] K Kp) | false => none) :=
  inlF_of mixed ⟨envTyOk.ty, envTyOk.eq⟩ gamOk_cert_Putx1 inl0_ok Try.func36 (by kernel_rfl) (by kernel_rfl) (by kernel_rfl) (by kernel_rfl) (by kernel_rfl) loops_cert_Putx1 (by kernel_rfl)
noncomputable def gam_cert_Putx2 : FuncId → List FuncId → Option CSpec
  | 33, [] => some cs_leb_PutU
  | _, _ => none
noncomputable def il_cert_Putx2 : Nat → Bool
  | 36 => true
  | _ => false
noncomputable def lv_cert_Putx2 : Nat → Option (List Nat)
  | 0 => some [4, 5, 6, 21, 22, 23, 42, 43, 44, 60, 61, 62, 86, 99, 100]
  | 1 => some [4, 5, 6, 21, 22, 23, 42, 43, 44, 60, 61, 62, 86, 100, 104, 105, 106]
  | 2 => some [4, 5, 6, 21, 22, 23, 42, 43, 44, 60, 61, 62, 86, 100, 104, 105, 106]
  | 3 => some [4, 5, 6, 21, 22, 23, 42, 43, 44, 60, 61, 62, 86, 100, 103, 104, 105, 106]
  | 4 => some [4, 5, 6, 21, 22, 23, 42, 43, 44, 60, 61, 62, 86, 100, 104, 105, 106]
  | _ => none
noncomputable def env_cert_Putx2 : Env := { ty := envTy, eq := envEq, gam := gam_cert_Putx2, n := Try.f36.ntmps, il := il_cert_Putx2, lv := lv_cert_Putx2, b := 99 }
theorem gamOk_cert_Putx2 : EnvFn Try.prog env_cert_Putx2 := by
  intro f gs c h
  unfold env_cert_Putx2 gam_cert_Putx2 at h
  simp only at h
  split at h <;> first | (cases h; done) | (cases h; exact h_leb_PutU)
structure X_cert_Putx2_1 where
  f4 : Bool
  f5 : List (Int)
  f21 : List (It1)
  f22 : Int
  f23 : Int
  f42 : List (List (((Int) × (Int) × Unit) × ((Int) × (Int) × Unit) × Unit))
  f43 : Int
  f44 : Int
  f60 : List (((Int) × (Int) × Unit) × ((Int) × (Int) × Unit) × Unit)
  f61 : Int
  f62 : Int
  f86 : List (Int)
  f105 : Int
  f106 : Int

noncomputable def B_cert_Putx2_1 {R : Type} (k_exit_0 : Bool → (List (Int)) → (List (It1)) → Int → Int → (List (List (((Int) × (Int) × Unit) × ((Int) × (Int) × Unit) × Unit))) → Int → Int → (List (((Int) × (Int) × Unit) × ((Int) × (Int) × Unit) × Unit)) → Int → Int → Option R) (rec : X_cert_Putx2_1 → Option R) (x : X_cert_Putx2_1) : Option R :=
  let v1 := decide (x.f106 < x.f105)
  cond v1
  (cond (inB x.f106 (List.length x.f86))
  (let v2 := (List.getD x.f86 x.f106.toNat (0 : Int))
  p_leb_PutU x.f5 v2 fun r3 =>
  let v4 := IntKind.i64.wrap (x.f106 + (1 : Int))
  rec ⟨x.f4, r3, x.f21, x.f22, x.f23, x.f42, x.f43, x.f44, x.f60, x.f61, x.f62, x.f86, x.f105, v4⟩) none)
  (k_exit_0 x.f4 x.f5 x.f21 x.f22 x.f23 x.f42 x.f43 x.f44 x.f60 x.f61 x.f62)
noncomputable def S_cert_Putx2_1 (x : X_cert_Putx2_1) : St := St.ofList [(4, (.v .bool .s x.f4)), (5, (.v (.ptr 22 (.sl 5 (.int .u8))) (.o (.o .s)) (some x.f5))), (6, (.fn 36 [] [(5, [.der])])), (21, (.v (.sl 89 (.pair (.sl 86 (.sl 85 Ty0)) .unit)) .s x.f21)), (22, (.v (.int .i64) .s x.f22)), (23, (.v (.int .i64) .s x.f23)), (42, (.v (.sl 86 (.sl 85 Ty0)) .s x.f42)), (43, (.v (.int .i64) .s x.f43)), (44, (.v (.int .i64) .s x.f44)), (60, (.v (.sl 85 Ty0) .s x.f60)), (61, (.v (.int .i64) .s x.f61)), (62, (.v (.int .i64) .s x.f62)), (86, (.v (.sl 75 (.int .u64)) (.o .s) x.f86)), (100, (.al 5 [.der])), (104, (.lz 86 [])), (105, (.v (.int .i64) .s x.f105)), (106, (.v (.int .i64) .s x.f106))]
def out_cert_Putx2_1 : Ex → List (Nat × Bool) | .exit 0 => [(4, false), (5, false), (6, false), (21, false), (22, false), (23, false), (42, false), (43, false), (44, false), (60, false), (61, false), (62, false)] | _ => []
noncomputable def fuel_cert_Putx2_1 (x : X_cert_Putx2_1) : Nat := fuel64
noncomputable def c_cert_Putx2_1 : Code := match loopAt 1 (body Try.f36.body) with | some c => c | none => .skip
noncomputable def lp_cert_Putx2 : Loops := fun z i R st K => match z, i with
  | false, 1 => coerce [(4, false), (5, false), (6, false), (21, false), (22, false), (23, false), (42, false), (43, false), (44, false), (60, false), (61, false), (62, false), (86, false), (100, false), (104, false), (105, false), (106, false)] st (fun st => mV .bool .s (st 4) fun y4 => mP 22 (.sl 5 (.int .u8)) (.o (.o .s)) (st 5) fun y5 => mFn 36 [] [(5, [.der])] (st 6) (mV (.sl 89 (.pair (.sl 86 (.sl 85 Ty0)) .unit)) .s (st 21) fun y21 => mV (.int .i64) .s (st 22) fun y22 => mV (.int .i64) .s (st 23) fun y23 => mV (.sl 86 (.sl 85 Ty0)) .s (st 42) fun y42 => mV (.int .i64) .s (st 43) fun y43 => mV (.int .i64) .s (st 44) fun y44 => mV (.sl 85 Ty0) .s (st 60) fun y60 => mV (.int .i64) .s (st 61) fun y61 => mV (.int .i64) .s (st 62) fun y62 => mV (.sl 75 (.int .u64)) (.o .s) (st 86) fun y86 => mAl 5 [.der] (st 100) (mLz 86 [] (st 104) (mV (.int .i64) .s (st 105) fun y105 => mV (.int .i64) .s (st 106) fun y106 => loopN (B_cert_Putx2_1 (fun e4 e5 e21 e22 e23 e42 e43 e44 e60 e61 e62 => K (.exit 0) (St.ofList [(4, (.v .bool .s e4)), (5, (.v (.ptr 22 (.sl 5 (.int .u8))) (.o (.o .s)) (some e5))), (6, (.fn 36 [] [(5, [.der])])), (21, (.v (.sl 89 (.pair (.sl 86 (.sl 85 Ty0)) .unit)) .s e21)), (22, (.v (.int .i64) .s e22)), (23, (.v (.int .i64) .s e23)), (42, (.v (.sl 86 (.sl 85 Ty0)) .s e42)), (43, (.v (.int .i64) .s e43)), (44, (.v (.int .i64) .s e44)), (60, (.v (.sl 85 Ty0) .s e60)), (61, (.v (.int .i64) .s e61)), (62, (.v (.int .i64) .s e62))]))) (fuel_cert_Putx2_1 ⟨y4, y5, y21, y22, y23, y42, y43, y44, y60, y61, y62, y86, y105, y106⟩) ⟨y4, y5, y21, y22, y23, y42, y43, y44, y60, y61, y62, y86, y105, y106⟩))))
  | _, _ => none
theorem step_cert_Putx2_1 (R : Type) (K : Ex → St → Option R) (rec : St → Option R) (x : X_cert_Putx2_1) : evC env_cert_Putx2 lp_cert_Putx2 inl0 c_cert_Putx2_1 (S_cert_Putx2_1 x) (fun e st => match e with | .normal => coerce [(4, false), (5, false), (6, false), (21, false), (22, false), (23, false), (42, false), (43, false), (44, false), (60, false), (61, false), (62, false), (86, false), (100, false), (104, false), (105, false), (106, false)] st rec | e => coerce (out_cert_Putx2_1 e) st (K e)) = B_cert_Putx2_1 (fun e4 e5 e21 e22 e23 e42 e43 e44 e60 e61 e62 => K (.exit 0) (St.ofList [(4, (.v .bool .s e4)), (5, (.v (.ptr 22 (.sl 5 (.int .u8))) (.o (.o .s)) (some e5))), (6, (.fn 36 [] [(5, [.der])])), (21, (.v (.sl 89 (.pair (.sl 86 (.sl 85 Ty0)) .unit)) .s e21)), (22, (.v (.int .i64) .s e22)), (23, (.v (.int .i64) .s e23)), (42, (.v (.sl 86 (.sl 85 Ty0)) .s e42)), (43, (.v (.int .i64) .s e43)), (44, (.v (.int .i64) .s e44)), (60, (.v (.sl 85 Ty0) .s e60)), (61, (.v (.int .i64) .s e61)), (62, (.v (.int .i64) .s e62))])) (fun x => rec (S_cert_Putx2_1 x)) x := by kernel_rfl
theorem ok_cert_Putx2_1 : LoopOk env_cert_Putx2 lp_cert_Putx2 inl0 c_cert_Putx2_1 := by
  refine loopOk_of (hd := [(4, false), (5, false), (6, false), (21, false), (22, false), (23, false), (42, false), (43, false), (44, false), (60, false), (61, false), (62, false), (86, false), (100, false), (104, false), (105, false), (106, false)]) (out := out_cert_Putx2_1) (S := S_cert_Putx2_1) (fun _ K => B_cert_Putx2_1 (fun e4 e5 e21 e22 e23 e42 e43 e44 e60 e61 e62 => K (.exit 0) (St.ofList [(4, (.v .bool .s e4)), (5, (.v (.ptr 22 (.sl 5 (.int .u8))) (.o (.o .s)) (some e5))), (6, (.fn 36 [] [(5, [.der])])), (21, (.v (.sl 89 (.pair (.sl 86 (.sl 85 Ty0)) .unit)) .s e21)), (22, (.v (.int .i64) .s e22)), (23, (.v (.int .i64) .s e23)), (42, (.v (.sl 86 (.sl 85 Ty0)) .s e42)), (43, (.v (.int .i64) .s e43)), (44, (.v (.int .i64) .s e44)), (60, (.v (.sl 85 Ty0) .s e60)), (61, (.v (.int .i64) .s e61)), (62, (.v (.int .i64) .s e62))]))) fuel_cert_Putx2_1 1 step_cert_Putx2_1 (by kernel_rfl) (fun R K => fun st => mV .bool .s (st 4) fun y4 => mP 22 (.sl 5 (.int .u8)) (.o (.o .s)) (st 5) fun y5 => mFn 36 [] [(5, [.der])] (st 6) (mV (.sl 89 (.pair (.sl 86 (.sl 85 Ty0)) .unit)) .s (st 21) fun y21 => mV (.int .i64) .s (st 22) fun y22 => mV (.int .i64) .s (st 23) fun y23 => mV (.sl 86 (.sl 85 Ty0)) .s (st 42) fun y42 => mV (.int .i64) .s (st 43) fun y43 => mV (.int .i64) .s (st 44) fun y44 => mV (.sl 85 Ty0) .s (st 60) fun y60 => mV (.int .i64) .s (st 61) fun y61 => mV (.int .i64) .s (st 62) fun y62 => mV (.sl 75 (.int .u64)) (.o .s) (st 86) fun y86 => mAl 5 [.der] (st 100) (mLz 86 [] (st 104) (mV (.int .i64) .s (st 105) fun y105 => mV (.int .i64) .s (st 106) fun y106 => loopN (B_cert_Putx2_1 (fun e4 e5 e21 e22 e23 e42 e43 e44 e60 e61 e62 => K (.exit 0) (St.ofList [(4, (.v .bool .s e4)), (5, (.v (.ptr 22 (.sl 5 (.int .u8))) (.o (.o .s)) (some e5))), (6, (.fn 36 [] [(5, [.der])])), (21, (.v (.sl 89 (.pair (.sl 86 (.sl 85 Ty0)) .unit)) .s e21)), (22, (.v (.int .i64) .s e22)), (23, (.v (.int .i64) .s e23)), (42, (.v (.sl 86 (.sl 85 Ty0)) .s e42)), (43, (.v (.int .i64) .s e43)), (44, (.v (.int .i64) .s e44)), (60, (.v (.sl 85 Ty0) .s e60)), (61, (.v (.int .i64) .s e61)), (62, (.v (.int .i64) .s e62))]))) (fuel_cert_Putx2_1 ⟨y4, y5, y21, y22, y23, y42, y43, y44, y60, y61, y62, y86, y105, y106⟩) ⟨y4, y5, y21, y22, y23, y42, y43, y44, y60, y61, y62, y86, y105, y106⟩)))) (fun R st K => by kernel_rfl) ?_
  intro R K st r h
  obtain ⟨y4, hy4, h⟩ := mV_inv h
  obtain ⟨y5, hy5, h⟩ := mP_inv h
  obtain ⟨hy6, h⟩ := mFn_inv h
  obtain ⟨y21, hy21, h⟩ := mV_inv h
  obtain ⟨y22, hy22, h⟩ := mV_inv h
  obtain ⟨y23, hy23, h⟩ := mV_inv h
  obtain ⟨y42, hy42, h⟩ := mV_inv h
  obtain ⟨y43, hy43, h⟩ := mV_inv h
  obtain ⟨y44, hy44, h⟩ := mV_inv h
  obtain ⟨y60, hy60, h⟩ := mV_inv h
  obtain ⟨y61, hy61, h⟩ := mV_inv h
  obtain ⟨y62, hy62, h⟩ := mV_inv h
  obtain ⟨y86, hy86, h⟩ := mV_inv h
  obtain ⟨hy100, h⟩ := mAl_inv h
  obtain ⟨hy104, h⟩ := mLz_inv h
  obtain ⟨y105, hy105, h⟩ := mV_inv h
  obtain ⟨y106, hy106, h⟩ := mV_inv h
  exact ⟨⟨y4, y5, y21, y22, y23, y42, y43, y44, y60, y61, y62, y86, y105, y106⟩, only_of_list (ofList_cons hy4 (ofList_cons hy5 (ofList_cons hy6 (ofList_cons hy21 (ofList_cons hy22 (ofList_cons hy23 (ofList_cons hy42 (ofList_cons hy43 (ofList_cons hy44 (ofList_cons hy60 (ofList_cons hy61 (ofList_cons hy62 (ofList_cons hy86 (ofList_cons hy100 (ofList_cons hy104 (ofList_cons hy105 (ofList_cons hy106 rfl))))))))))))))))), h⟩
theorem loops_cert_Putx2 : LoopsOk env_cert_Putx2 lp_cert_Putx2 inl0 (body Try.f36.body) := by
  refine loopsOk_of (fun c hc => ?_) (fun c hc => ?_)
  · rw [show loopsL (body Try.f36.body) = [c_cert_Putx2_1] by kernel_rfl] at hc
    simp only [List.mem_cons, List.not_mem_nil, or_false] at hc
    rcases hc with rfl
    · exact ok_cert_Putx2_1
  · rw [show joinsL env_cert_Putx2 (body Try.f36.body) = [] by kernel_rfl] at hc; cases hc
theorem inlF_cert_Putx2 : InlF Try.prog env_cert_Putx2.b 36 (fun R st xs K Kp => match Nat.ble xs.length env_cert_Putx2.n with | true => evC env_cert_Putx2 lp_cert_Putx2 inl0 (body Try.f36.body) (st.enter env_cert_Putx2.b xs) (inlK env_cert_Putx2 [] K Kp) | false => none) :=
  inlF_of mixed ⟨envTyOk.ty, envTyOk.eq⟩ gamOk_cert_Putx2 inl0_ok Try.func36 (by kernel_rfl) (by kernel_rfl) (by kernel_rfl) (by kernel_rfl) (by kernel_rfl) loops_cert_Putx2 (by kernel_rfl)
noncomputable def gam_cert_Put : FuncId → List FuncId → Option CSpec
  | 33, [] => some cs_leb_PutU
  | 37, [] => some cs_abs_Right
  | _, _ => none
noncomputable def fs_cert_Put : Nat → Bool
  | 8 => true
  | 12 => true
  | _ => false
noncomputable def il_cert_Put : Nat → Bool
  | 36 => true
  | _ => false
noncomputable def lv_cert_Put : Nat → Option (List Nat)
  | 0 => some [0]
  | 1 => some [0]
  | 2 => some [0, 4]
  | 3 => some [0, 4, 5]
  | 4 => some [0, 4, 5, 6]
  | 5 => some [4, 5, 6, 21, 22, 23]
  | 6 => some [4, 5, 6, 21, 22, 23]
  | 7 => some [4, 5, 6, 8, 21, 22, 23]
  | 8 => some [4, 5, 6, 8, 21, 22, 23]
  | 9 => some [4, 5, 6, 8, 21, 22, 23]
  | 10 => some [4, 5, 6, 21, 22, 23, 42, 43, 44]
  | 11 => some [4, 5, 6, 21, 22, 23, 42, 43, 44]
  | 12 => some [4, 5, 6, 10, 21, 22, 23, 42, 43, 44]
  | 13 => some [4, 5, 6, 10, 21, 22, 23, 42, 43, 44]
  | 14 => some [4, 5, 6, 10, 21, 22, 23, 42, 43, 44]
  | 15 => some [4, 5, 6, 21, 22, 23, 42, 43, 44, 60, 61, 62]
  | 16 => some [4, 5, 6, 21, 22, 23, 42, 43, 44, 60, 61, 62]
  | 17 => some [4, 5, 6, 12, 21, 22, 23, 42, 43, 44, 60, 61, 62]
  | 18 => some []
  | 19 => some [4, 5, 6, 12, 21, 22, 23, 42, 43, 44, 60, 61, 62]
  | 20 => some [4, 5, 6, 12, 21, 22, 23, 42, 43, 44, 60, 61, 62]
  | 21 => some [4, 5, 6, 21, 22, 23, 42, 43, 44, 60, 61, 62]
  | 22 => some [4, 5, 6, 21, 22, 23, 42, 43, 44]
  | 23 => some [4, 5, 6, 21, 22, 23]
  | 24 => some [4, 5]
  | 25 => some []
  | 26 => some [5]
  | _ => none
noncomputable def env_cert_Put : Env := { ty := envTy, eq := envEq, gam := gam_cert_Put, n := Try.f16.ntmps, fs := fs_cert_Put, il := il_cert_Put, lv := lv_cert_Put }
theorem gamOk_cert_Put : EnvFn Try.prog env_cert_Put := by
  intro f gs c h
  unfold env_cert_Put gam_cert_Put at h
  simp only at h
  split at h <;> first | (cases h; done) | (cases h; exact h_leb_PutU) | (cases h; exact h_abs_Right)
noncomputable def inl_cert_Put : Inl := fun f d R st xs K Kp => match f, d with
  | 36, some 40 => match Nat.ble xs.length env_cert_Putx0.n with
    | true => evC env_cert_Putx0 lp_cert_Putx0 inl0 (body Try.f36.body) (st.enter env_cert_Putx0.b xs) (inlK env_cert_Putx0 [] K Kp)
    | false => none
  | 36, some 59 => match Nat.ble xs.length env_cert_Putx1.n with
    | true => evC env_cert_Putx1 lp_cert_Putx1 inl0 (body Try.f36.body) (st.enter env_cert_Putx1.b xs) (inlK env_cert_Putx1 [] K Kp)
    | false => none
  | 36, some 87 => match Nat.ble xs.length env_cert_Putx2.n with
    | true => evC env_cert_Putx2 lp_cert_Putx2 inl0 (body Try.f36.body) (st.enter env_cert_Putx2.b xs) (inlK env_cert_Putx2 [] K Kp)
    | false => none
  | _, _ => none
theorem inlOk_cert_Put : InlOk Try.prog env_cert_Put.top inl_cert_Put := inlOk_of fun f d => by
  unfold inl_cert_Put
  split
  · exact inlF_cert_Putx0
  · exact inlF_cert_Putx1
  · exact inlF_cert_Putx2
  · exact inlF_none
structure X_cert_Put_15 where
  f4 : Bool
  f5 : List (Int)
  f21 : List (It1)
  f22 : Int
  f23 : Int
  f42 : List (List (((Int) × (Int) × Unit) × ((Int) × (Int) × Unit) × Unit))
  f43 : Int
  f44 : Int
  f60 : List (((Int) × (Int) × Unit) × ((Int) × (Int) × Unit) × Unit)
  f61 : Int
  f62 : Int

noncomputable def B_cert_Put_15 {R : Type} (k_ret : (List (Int)) → Int → Option R) (k_exit_4 : Bool → (List (Int)) → (List (It1)) → Int → Int → (List (List (((Int) × (Int) × Unit) × ((Int) × (Int) × Unit) × Unit))) → Int → Int → Option R) (rec : X_cert_Put_15 → Option R) (x : X_cert_Put_15) : Option R :=
  let v1 := decide (x.f62 < x.f61)
  cond v1
  (cond (inB x.f62 (List.length x.f60))
  (let v2 := List.getD x.f60 x.f62.toNat (((0 : Int), ((0 : Int), ())), (((0 : Int), ((0 : Int), ())), ()))
  p_abs_Right v2 fun r3 =>
  let v4 := !r3
  cond v4
  (k_ret ([] : List (Int)) (2 : Int))
  (let v5 := ((List.length x.f5 : Nat) : Int)
  let v6 := decide (v5 ≤ (65536 : Int))
  cond v6
  (let v7 := IntKind.u64.wrap v2.2.1.1
  let v8 := List.set (List.set (List.set (List.set (List.replicate 4 (0 : Int)) 0 v2.1.1) 1 v2.1.2.1) 2 v7) 3 v2.2.1.2.1
  let v9 := ((List.length v8 : Nat) : Int)
  loopN (B_cert_Putx2_1 (fun w10 w11 w12 w13 w14 w15 w16 w17 w18 w19 w20 =>
  let v21 := IntKind.i64.wrap (w20 + (1 : Int))
  rec ⟨w10, w11, w12, w13, w14, w15, w16, w17, w18, w19, v21⟩)) (fuel_cert_Putx2_1 ⟨x.f4, x.f5, x.f21, x.f22, x.f23, x.f42, x.f43, x.f44, x.f60, x.f61, x.f62, v8, v9, (0 : Int)⟩) ⟨x.f4, x.f5, x.f21, x.f22, x.f23, x.f42, x.f43, x.f44, x.f60, x.f61, x.f62, v8, v9, (0 : Int)⟩)
  (let v22 := IntKind.i64.wrap (x.f62 + (1 : Int))
  rec ⟨x.f4, x.f5, x.f21, x.f22, x.f23, x.f42, x.f43, x.f44, x.f60, x.f61, v22⟩))) none)
  (k_exit_4 x.f4 x.f5 x.f21 x.f22 x.f23 x.f42 x.f43 x.f44)
noncomputable def S_cert_Put_15 (x : X_cert_Put_15) : St := St.ofList [(4, (.v .bool .s x.f4)), (5, (.v (.ptr 22 (.sl 5 (.int .u8))) (.o (.o .s)) (some x.f5))), (6, (.fn 36 [] [(5, [.der])])), (21, (.v (.sl 89 (.pair (.sl 86 (.sl 85 Ty0)) .unit)) .s x.f21)), (22, (.v (.int .i64) .s x.f22)), (23, (.v (.int .i64) .s x.f23)), (42, (.v (.sl 86 (.sl 85 Ty0)) .s x.f42)), (43, (.v (.int .i64) .s x.f43)), (44, (.v (.int .i64) .s x.f44)), (60, (.v (.sl 85 Ty0) .s x.f60)), (61, (.v (.int .i64) .s x.f61)), (62, (.v (.int .i64) .s x.f62))]
def out_cert_Put_15 : Ex → List (Nat × Bool) | .ret => [(2, false), (3, false)] | .exit 4 => [(4, false), (5, false), (6, false), (21, false), (22, false), (23, false), (42, false), (43, false), (44, false)] | _ => []
noncomputable def fuel_cert_Put_15 (x : X_cert_Put_15) : Nat := fuel64
noncomputable def c_cert_Put_15 : Code := match loopAt 15 (body Try.f16.body) with | some c => c | none => .skip
structure X_cert_Put_10 where
  f4 : Bool
  f5 : List (Int)
  f21 : List (It1)
  f22 : Int
  f23 : Int
  f42 : List (List (((Int) × (Int) × Unit) × ((Int) × (Int) × Unit) × Unit))
  f43 : Int
  f44 : Int

noncomputable def B_cert_Put_10 {R : Type} (k_ret : (List (Int)) → Int → Option R) (k_exit_2 : Bool → (List (Int)) → (List (It1)) → Int → Int → Option R) (rec : X_cert_Put_10 → Option R) (x : X_cert_Put_10) : Option R :=
  let v1 := decide (x.f44 < x.f43)
  cond v1
  (cond (inB x.f44 (List.length x.f42))
  (let v2 := List.getD x.f42 x.f44.toNat ([] : List (((Int) × (Int) × Unit) × ((Int) × (Int) × Unit) × Unit))
  cond x.f4
  (let v3 := ((List.length v2 : Nat) : Int)
  let v4 := IntKind.u64.wrap v3
  let v5 := List.set (List.replicate 1 (0 : Int)) 0 v4
  let v6 := ((List.length v5 : Nat) : Int)
  loopN (B_cert_Putx1_1 (fun w7 w8 w9 w10 w11 w12 w13 w14 w15 =>
  let v16 := ((List.length w9 : Nat) : Int)
  loopN (B_cert_Put_15 (fun w17 w18 =>
  k_ret w17 w18) (fun w19 w20 w21 w22 w23 w24 w25 w26 =>
  let v27 := IntKind.i64.wrap (w26 + (1 : Int))
  rec ⟨w19, w20, w21, w22, w23, w24, w25, v27⟩)) (fuel_cert_Put_15 ⟨w7, w8, w10, w11, w12, w13, w14, w15, w9, v16, (0 : Int)⟩) ⟨w7, w8, w10, w11, w12, w13, w14, w15, w9, v16, (0 : Int)⟩)) (fuel_cert_Putx1_1 ⟨true, x.f5, v2, x.f21, x.f22, x.f23, x.f42, x.f43, x.f44, v5, v6, (0 : Int)⟩) ⟨true, x.f5, v2, x.f21, x.f22, x.f23, x.f42, x.f43, x.f44, v5, v6, (0 : Int)⟩)
  (let v28 := ((List.length v2 : Nat) : Int)
  let v29 := decide (v28 > (64 : Int))
  let v30 := ((List.length v2 : Nat) : Int)
  let v31 := IntKind.u64.wrap v30
  let v32 := List.set (List.replicate 1 (0 : Int)) 0 v31
  let v33 := ((List.length v32 : Nat) : Int)
  loopN (B_cert_Putx1_1 (fun w34 w35 w36 w37 w38 w39 w40 w41 w42 =>
  let v43 := ((List.length w36 : Nat) : Int)
  loopN (B_cert_Put_15 (fun w44 w45 =>
  k_ret w44 w45) (fun w46 w47 w48 w49 w50 w51 w52 w53 =>
  let v54 := IntKind.i64.wrap (w53 + (1 : Int))
  rec ⟨w46, w47, w48, w49, w50, w51, w52, v54⟩)) (fuel_cert_Put_15 ⟨w34, w35, w37, w38, w39, w40, w41, w42, w36, v43, (0 : Int)⟩) ⟨w34, w35, w37, w38, w39, w40, w41, w42, w36, v43, (0 : Int)⟩)) (fuel_cert_Putx1_1 ⟨v29, x.f5, v2, x.f21, x.f22, x.f23, x.f42, x.f43, x.f44, v32, v33, (0 : Int)⟩) ⟨v29, x.f5, v2, x.f21, x.f22, x.f23, x.f42, x.f43, x.f44, v32, v33, (0 : Int)⟩)) none)
  (k_exit_2 x.f4 x.f5 x.f21 x.f22 x.f23)
noncomputable def S_cert_Put_10 (x : X_cert_Put_10) : St := St.ofList [(4, (.v .bool .s x.f4)), (5, (.v (.ptr 22 (.sl 5 (.int .u8))) (.o (.o .s)) (some x.f5))), (6, (.fn 36 [] [(5, [.der])])), (21, (.v (.sl 89 (.pair (.sl 86 (.sl 85 Ty0)) .unit)) .s x.f21)), (22, (.v (.int .i64) .s x.f22)), (23, (.v (.int .i64) .s x.f23)), (42, (.v (.sl 86 (.sl 85 Ty0)) .s x.f42)), (43, (.v (.int .i64) .s x.f43)), (44, (.v (.int .i64) .s x.f44))]
def out_cert_Put_10 : Ex → List (Nat × Bool) | .ret => [(2, false), (3, false)] | .exit 2 => [(4, false), (5, false), (6, false), (21, false), (22, false), (23, false)] | _ => []
noncomputable def fuel_cert_Put_10 (x : X_cert_Put_10) : Nat := fuel64
noncomputable def c_cert_Put_10 : Code := match loopAt 10 (body Try.f16.body) with | some c => c | none => .skip
structure X_cert_Put_5 where
  f4 : Bool
  f5 : List (Int)
  f21 : List (It1)
  f22 : Int
  f23 : Int

noncomputable def B_cert_Put_5 {R : Type} (k_ret : (List (Int)) → Int → Option R) (k_exit_0 : Bool → (List (Int)) → Option R) (rec : X_cert_Put_5 → Option R) (x : X_cert_Put_5) : Option R :=
  let v1 := decide (x.f23 < x.f22)
  cond v1
  (cond (inB x.f23 (List.length x.f21))
  (let v2 := List.getD x.f21 x.f23.toNat (([] : List (List (((Int) × (Int) × Unit) × ((Int) × (Int) × Unit) × Unit))), ())
  cond x.f4
  (let v3 := ((List.length v2.1 : Nat) : Int)
  let v4 := IntKind.u64.wrap v3
  let v5 := List.set (List.replicate 1 (0 : Int)) 0 v4
  let v6 := ((List.length v5 : Nat) : Int)
  loopN (B_cert_Putx0_1 (fun w7 w8 w9 w10 w11 w12 =>
  let v13 := ((List.length w9.1 : Nat) : Int)
  loopN (B_cert_Put_10 (fun w14 w15 =>
  k_ret w14 w15) (fun w16 w17 w18 w19 w20 =>
  let v21 := IntKind.i64.wrap (w20 + (1 : Int))
  rec ⟨w16, w17, w18, w19, v21⟩)) (fuel_cert_Put_10 ⟨w7, w8, w10, w11, w12, w9.1, v13, (0 : Int)⟩) ⟨w7, w8, w10, w11, w12, w9.1, v13, (0 : Int)⟩)) (fuel_cert_Putx0_1 ⟨true, x.f5, v2, x.f21, x.f22, x.f23, v5, v6, (0 : Int)⟩) ⟨true, x.f5, v2, x.f21, x.f22, x.f23, v5, v6, (0 : Int)⟩)
  (let v22 := ((List.length v2.1 : Nat) : Int)
  let v23 := decide (v22 > (2000 : Int))
  let v24 := ((List.length v2.1 : Nat) : Int)
  let v25 := IntKind.u64.wrap v24
  let v26 := List.set (List.replicate 1 (0 : Int)) 0 v25
  let v27 := ((List.length v26 : Nat) : Int)
  loopN (B_cert_Putx0_1 (fun w28 w29 w30 w31 w32 w33 =>
  let v34 := ((List.length w30.1 : Nat) : Int)
  loopN (B_cert_Put_10 (fun w35 w36 =>
  k_ret w35 w36) (fun w37 w38 w39 w40 w41 =>
  let v42 := IntKind.i64.wrap (w41 + (1 : Int))
  rec ⟨w37, w38, w39, w40, v42⟩)) (fuel_cert_Put_10 ⟨w28, w29, w31, w32, w33, w30.1, v34, (0 : Int)⟩) ⟨w28, w29, w31, w32, w33, w30.1, v34, (0 : Int)⟩)) (fuel_cert_Putx0_1 ⟨v23, x.f5, v2, x.f21, x.f22, x.f23, v26, v27, (0 : Int)⟩) ⟨v23, x.f5, v2, x.f21, x.f22, x.f23, v26, v27, (0 : Int)⟩)) none)
  (k_exit_0 x.f4 x.f5)
noncomputable def S_cert_Put_5 (x : X_cert_Put_5) : St := St.ofList [(4, (.v .bool .s x.f4)), (5, (.v (.ptr 22 (.sl 5 (.int .u8))) (.o (.o .s)) (some x.f5))), (6, (.fn 36 [] [(5, [.der])])), (21, (.v (.sl 89 (.pair (.sl 86 (.sl 85 Ty0)) .unit)) .s x.f21)), (22, (.v (.int .i64) .s x.f22)), (23, (.v (.int .i64) .s x.f23))]
def out_cert_Put_5 : Ex → List (Nat × Bool) | .ret => [(2, false), (3, false)] | .exit 0 => [(4, false), (5, false)] | _ => []
noncomputable def fuel_cert_Put_5 (x : X_cert_Put_5) : Nat := fuel64
noncomputable def c_cert_Put_5 : Code := match loopAt 5 (body Try.f16.body) with | some c => c | none => .skip
noncomputable def lp_cert_Put : Loops := fun z i R st K => match z, i with
  | false, 15 => coerce [(4, false), (5, false), (6, false), (21, false), (22, false), (23, false), (42, false), (43, false), (44, false), (60, false), (61, false), (62, false)] st (fun st => mV .bool .s (st 4) fun y4 => mP 22 (.sl 5 (.int .u8)) (.o (.o .s)) (st 5) fun y5 => mFn 36 [] [(5, [.der])] (st 6) (mV (.sl 89 (.pair (.sl 86 (.sl 85 Ty0)) .unit)) .s (st 21) fun y21 => mV (.int .i64) .s (st 22) fun y22 => mV (.int .i64) .s (st 23) fun y23 => mV (.sl 86 (.sl 85 Ty0)) .s (st 42) fun y42 => mV (.int .i64) .s (st 43) fun y43 => mV (.int .i64) .s (st 44) fun y44 => mV (.sl 85 Ty0) .s (st 60) fun y60 => mV (.int .i64) .s (st 61) fun y61 => mV (.int .i64) .s (st 62) fun y62 => loopN (B_cert_Put_15 (fun e2 e3 => K .ret (St.ofList [(2, (.v (.sl 5 (.int .u8)) (.o .s) e2)), (3, (.v (.int .i64) .s e3))])) (fun e4 e5 e21 e22 e23 e42 e43 e44 => K (.exit 4) (St.ofList [(4, (.v .bool .s e4)), (5, (.v (.ptr 22 (.sl 5 (.int .u8))) (.o (.o .s)) (some e5))), (6, (.fn 36 [] [(5, [.der])])), (21, (.v (.sl 89 (.pair (.sl 86 (.sl 85 Ty0)) .unit)) .s e21)), (22, (.v (.int .i64) .s e22)), (23, (.v (.int .i64) .s e23)), (42, (.v (.sl 86 (.sl 85 Ty0)) .s e42)), (43, (.v (.int .i64) .s e43)), (44, (.v (.int .i64) .s e44))]))) (fuel_cert_Put_15 ⟨y4, y5, y21, y22, y23, y42, y43, y44, y60, y61, y62⟩) ⟨y4, y5, y21, y22, y23, y42, y43, y44, y60, y61, y62⟩))
  | false, 10 => coerce [(4, false), (5, false), (6, false), (21, false), (22, false), (23, false), (42, false), (43, false), (44, false)] st (fun st => mV .bool .s (st 4) fun y4 => mP 22 (.sl 5 (.int .u8)) (.o (.o .s)) (st 5) fun y5 => mFn 36 [] [(5, [.der])] (st 6) (mV (.sl 89 (.pair (.sl 86 (.sl 85 Ty0)) .unit)) .s (st 21) fun y21 => mV (.int .i64) .s (st 22) fun y22 => mV (.int .i64) .s (st 23) fun y23 => mV (.sl 86 (.sl 85 Ty0)) .s (st 42) fun y42 => mV (.int .i64) .s (st 43) fun y43 => mV (.int .i64) .s (st 44) fun y44 => loopN (B_cert_Put_10 (fun e2 e3 => K .ret (St.ofList [(2, (.v (.sl 5 (.int .u8)) (.o .s) e2)), (3, (.v (.int .i64) .s e3))])) (fun e4 e5 e21 e22 e23 => K (.exit 2) (St.ofList [(4, (.v .bool .s e4)), (5, (.v (.ptr 22 (.sl 5 (.int .u8))) (.o (.o .s)) (some e5))), (6, (.fn 36 [] [(5, [.der])])), (21, (.v (.sl 89 (.pair (.sl 86 (.sl 85 Ty0)) .unit)) .s e21)), (22, (.v (.int .i64) .s e22)), (23, (.v (.int .i64) .s e23))]))) (fuel_cert_Put_10 ⟨y4, y5, y21, y22, y23, y42, y43, y44⟩) ⟨y4, y5, y21, y22, y23, y42, y43, y44⟩))
  | false, 5 => coerce [(4, false), (5, false), (6, false), (21, false), (22, false), (23, false)] st (fun st => mV .bool .s (st 4) fun y4 => mP 22 (.sl 5 (.int .u8)) (.o (.o .s)) (st 5) fun y5 => mFn 36 [] [(5, [.der])] (st 6) (mV (.sl 89 (.pair (.sl 86 (.sl 85 Ty0)) .unit)) .s (st 21) fun y21 => mV (.int .i64) .s (st 22) fun y22 => mV (.int .i64) .s (st 23) fun y23 => loopN (B_cert_Put_5 (fun e2 e3 => K .ret (St.ofList [(2, (.v (.sl 5 (.int .u8)) (.o .s) e2)), (3, (.v (.int .i64) .s e3))])) (fun e4 e5 => K (.exit 0) (St.ofList [(4, (.v .bool .s e4)), (5, (.v (.ptr 22 (.sl 5 (.int .u8))) (.o (.o .s)) (some e5)))]))) (fuel_cert_Put_5 ⟨y4, y5, y21, y22, y23⟩) ⟨y4, y5, y21, y22, y23⟩))
  | _, _ => none
theorem step_cert_Put_15 (R : Type) (K : Ex → St → Option R) (rec : St → Option R) (x : X_cert_Put_15) : evC env_cert_Put lp_cert_Put inl_cert_Put c_cert_Put_15 (S_cert_Put_15 x) (fun e st => match e with | .normal => coerce [(4, false), (5, false), (6, false), (21, false), (22, false), (23, false), (42, false), (43, false), (44, false), (60, false), (61, false), (62, false)] st rec | e => coerce (out_cert_Put_15 e) st (K e)) = B_cert_Put_15 (fun e2 e3 => K .ret (St.ofList [(2, (.v (.sl 5 (.int .u8)) (.o .s) e2)), (3, (.v (.int .i64) .s e3))])) (fun e4 e5 e21 e22 e23 e42 e43 e44 => K (.exit 4) (St.ofList [(4, (.v .bool .s e4)), (5, (.v (.ptr 22 (.sl 5 (.int .u8))) (.o (.o .s)) (some e5))), (6, (.fn 36 [] [(5, [.der])])), (21, (.v (.sl 89 (.pair (.sl 86 (.sl 85 Ty0)) .unit)) .s e21)), (22, (.v (.int .i64) .s e22)), (23, (.v (.int .i64) .s e23)), (42, (.v (.sl 86 (.sl 85 Ty0)) .s e42)), (43, (.v (.int .i64) .s e43)), (44, (.v (.int .i64) .s e44))])) (fun x => rec (S_cert_Put_15 x)) x := by kernel_rfl
theorem ok_cert_Put_15 : LoopOk env_cert_Put lp_cert_Put inl_cert_Put c_cert_Put_15 := by
  refine loopOk_of (hd := [(4, false), (5, false), (6, false), (21, false), (22, false), (23, false), (42, false), (43, false), (44, false), (60, false), (61, false), (62, false)]) (out := out_cert_Put_15) (S := S_cert_Put_15) (fun _ K => B_cert_Put_15 (fun e2 e3 => K .ret (St.ofList [(2, (.v (.sl 5 (.int .u8)) (.o .s) e2)), (3, (.v (.int .i64) .s e3))])) (fun e4 e5 e21 e22 e23 e42 e43 e44 => K (.exit 4) (St.ofList [(4, (.v .bool .s e4)), (5, (.v (.ptr 22 (.sl 5 (.int .u8))) (.o (.o .s)) (some e5))), (6, (.fn 36 [] [(5, [.der])])), (21, (.v (.sl 89 (.pair (.sl 86 (.sl 85 Ty0)) .unit)) .s e21)), (22, (.v (.int .i64) .s e22)), (23, (.v (.int .i64) .s e23)), (42, (.v (.sl 86 (.sl 85 Ty0)) .s e42)), (43, (.v (.int .i64) .s e43)), (44, (.v (.int .i64) .s e44))]))) fuel_cert_Put_15 15 step_cert_Put_15 (by kernel_rfl) (fun R K => fun st => mV .bool .s (st 4) fun y4 => mP 22 (.sl 5 (.int .u8)) (.o (.o .s)) (st 5) fun y5 => mFn 36 [] [(5, [.der])] (st 6) (mV (.sl 89 (.pair (.sl 86 (.sl 85 Ty0)) .unit)) .s (st 21) fun y21 => mV (.int .i64) .s (st 22) fun y22 => mV (.int .i64) .s (st 23) fun y23 => mV (.sl 86 (.sl 85 Ty0)) .s (st 42) fun y42 => mV (.int .i64) .s (st 43) fun y43 => mV (.int .i64) .s (st 44) fun y44 => mV (.sl 85 Ty0) .s (st 60) fun y60 => mV (.int .i64) .s (st 61) fun y61 => mV (.int .i64) .s (st 62) fun y62 => loopN (B_cert_Put_15 (fun e2 e3 => K .ret (St.ofList [(2, (.v (.sl 5 (.int .u8)) (.o .s) e2)), (3, (.v (.int .i64) .s e3))])) (fun e4 e5 e21 e22 e23 e42 e43 e44 => K (.exit 4) (St.ofList [(4, (.v .bool .s e4)), (5, (.v (.ptr 22 (.sl 5 (.int .u8))) (.o (.o .s)) (some e5))), (6, (.fn 36 [] [(5, [.der])])), (21, (.v (.sl 89 (.pair (.sl 86 (.sl 85 Ty0)) .unit)) .s e21)), (22, (.v (.int .i64) .s e22)), (23, (.v (.int .i64) .s e23)), (42, (.v (.sl 86 (.sl 85 Ty0)) .s e42)), (43, (.v (.int .i64) .s e43)), (44, (.v (.int .i64) .s e44))]))) (fuel_cert_Put_15 ⟨y4, y5, y21, y22, y23, y42, y43, y44, y60, y61, y62⟩) ⟨y4, y5, y21, y22, y23, y42, y43, y44, y60, y61, y62⟩)) (fun R st K => by kernel_rfl) ?_
  intro R K st r h
  obtain ⟨y4, hy4, h⟩ := mV_inv h
  obtain ⟨y5, hy5, h⟩ := mP_inv h
  obtain ⟨hy6, h⟩ := mFn_inv h
  obtain ⟨y21, hy21, h⟩ := mV_inv h
  obtain ⟨y22, hy22, h⟩ := mV_inv h
  obtain ⟨y23, hy23, h⟩ := mV_inv h
  obtain ⟨y42, hy42, h⟩ := mV_inv h
  obtain ⟨y43, hy43, h⟩ := mV_inv h
  obtain ⟨y44, hy44, h⟩ := mV_inv h
  obtain ⟨y60, hy60, h⟩ := mV_inv h
  obtain ⟨y61, hy61, h⟩ := mV_inv h
  obtain ⟨y62, hy62, h⟩ := mV_inv h
  exact ⟨⟨y4, y5, y21, y22, y23, y42, y43, y44, y60, y61, y62⟩, only_of_list (ofList_cons hy4 (ofList_cons hy5 (ofList_cons hy6 (ofList_cons hy21 (ofList_cons hy22 (ofList_cons hy23 (ofList_cons hy42 (ofList_cons hy43 (ofList_cons hy44 (ofList_cons hy60 (ofList_cons hy61 (ofList_cons hy62 rfl)))))))))))), h⟩
theorem step_cert_Put_10 (R : Type) (K : Ex → St → Option R) (rec : St → Option R) (x : X_cert_Put_10) : evC env_cert_Put lp_cert_Put inl_cert_Put c_cert_Put_10 (S_cert_Put_10 x) (fun e st => match e with | .normal => coerce [(4, false), (5, false), (6, false), (21, false), (22, false), (23, false), (42, false), (43, false), (44, false)] st rec | e => coerce (out_cert_Put_10 e) st (K e)) = B_cert_Put_10 (fun e2 e3 => K .ret (St.ofList [(2, (.v (.sl 5 (.int .u8)) (.o .s) e2)), (3, (.v (.int .i64) .s e3))])) (fun e4 e5 e21 e22 e23 => K (.exit 2) (St.ofList [(4, (.v .bool .s e4)), (5, (.v (.ptr 22 (.sl 5 (.int .u8))) (.o (.o .s)) (some e5))), (6, (.fn 36 [] [(5, [.der])])), (21, (.v (.sl 89 (.pair (.sl 86 (.sl 85 Ty0)) .unit)) .s e21)), (22, (.v (.int .i64) .s e22)), (23, (.v (.int .i64) .s e23))])) (fun x => rec (S_cert_Put_10 x)) x := by kernel_rfl
theorem ok_cert_Put_10 : LoopOk env_cert_Put lp_cert_Put inl_cert_Put c_cert_Put_10 := by
  refine loopOk_of (hd := [(4, false), (5, false), (6, false), (21, false), (22, false), (23, false), (42, false), (43, false), (44, false)]) (out := out_cert_Put_10) (S := S_cert_Put_10) (fun _ K => B_cert_Put_10 (fun e2 e3 => K .ret (St.ofList [(2, (.v (.sl 5 (.int .u8)) (.o .s) e2)), (3, (.v (.int .i64) .s e3))])) (fun e4 e5 e21 e22 e23 => K (.exit 2) (St.ofList [(4, (.v .bool .s e4)), (5, (.v (.ptr 22 (.sl 5 (.int .u8))) (.o (.o .s)) (some e5))), (6, (.fn 36 [] [(5, [.der])])), (21, (.v (.sl 89 (.pair (.sl 86 (.sl 85 Ty0)) .unit)) .s e21)), (22, (.v (.int .i64) .s e22)), (23, (.v (.int .i64) .s e23))]))) fuel_cert_Put_10 10 step_cert_Put_10 (by kernel_rfl) (fun R K => fun st => mV .bool .s (st 4) fun y4 => mP 22 (.sl 5 (.int .u8)) (.o (.o .s)) (st 5) fun y5 => mFn 36 [] [(5, [.der])] (st 6) (mV (.sl 89 (.pair (.sl 86 (.sl 85 Ty0)) .unit)) .s (st 21) fun y21 => mV (.int .i64) .s (st 22) fun y22 => mV (.int .i64) .s (st 23) fun y23 => mV (.sl 86 (.sl 85 Ty0)) .s (st 42) fun y42 => mV (.int .i64) .s (st 43) fun y43 => mV (.int .i64) .s (st 44) fun y44 => loopN (B_cert_Put_10 (fun e2 e3 => K .ret (St.ofList [(2, (.v (.sl 5 (.int .u8)) (.o .s) e2)), (3, (.v (.int .i64) .s e3))])) (fun e4 e5 e21 e22 e23 => K (.exit 2) (St.ofList [(4, (.v .bool .s e4)), (5, (.v (.ptr 22 (.sl 5 (.int .u8))) (.o (.o .s)) (some e5))), (6, (.fn 36 [] [(5, [.der])])), (21, (.v (.sl 89 (.pair (.sl 86 (.sl 85 Ty0)) .unit)) .s e21)), (22, (.v (.int .i64) .s e22)), (23, (.v (.int .i64) .s e23))]))) (fuel_cert_Put_10 ⟨y4, y5, y21, y22, y23, y42, y43, y44⟩) ⟨y4, y5, y21, y22, y23, y42, y43, y44⟩)) (fun R st K => by kernel_rfl) ?_
  intro R K st r h
  obtain ⟨y4, hy4, h⟩ := mV_inv h
  obtain ⟨y5, hy5, h⟩ := mP_inv h
  obtain ⟨hy6, h⟩ := mFn_inv h
  obtain ⟨y21, hy21, h⟩ := mV_inv h
  obtain ⟨y22, hy22, h⟩ := mV_inv h
  obtain ⟨y23, hy23, h⟩ := mV_inv h
  obtain ⟨y42, hy42, h⟩ := mV_inv h
  obtain ⟨y43, hy43, h⟩ := mV_inv h
  obtain ⟨y44, hy44, h⟩ := mV_inv h
  exact ⟨⟨y4, y5, y21, y22, y23, y42, y43, y44⟩, only_of_list (ofList_cons hy4 (ofList_cons hy5 (ofList_cons hy6 (ofList_cons hy21 (ofList_cons hy22 (ofList_cons hy23 (ofList_cons hy42 (ofList_cons hy43 (ofList_cons hy44 rfl))))))))), h⟩
theorem step_cert_Put_5 (R : Type) (K : Ex → St → Option R) (rec : St → Option R) (x : X_cert_Put_5) : evC env_cert_Put lp_cert_Put inl_cert_Put c_cert_Put_5 (S_cert_Put_5 x) (fun e st => match e with | .normal => coerce [(4, false), (5, false), (6, false), (21, false), (22, false), (23, false)] st rec | e => coerce (out_cert_Put_5 e) st (K e)) = B_cert_Put_5 (fun e2 e3 => K .ret (St.ofList [(2, (.v (.sl 5 (.int .u8)) (.o .s) e2)), (3, (.v (.int .i64) .s e3))])) (fun e4 e5 => K (.exit 0) (St.ofList [(4, (.v .bool .s e4)), (5, (.v (.ptr 22 (.sl 5 (.int .u8))) (.o (.o .s)) (some e5)))])) (fun x => rec (S_cert_Put_5 x)) x := by kernel_rfl
theorem ok_cert_Put_5 : LoopOk env_cert_Put lp_cert_Put inl_cert_Put c_cert_Put_5 := by
  refine loopOk_of (hd := [(4, false), (5, false), (6, false), (21, false), (22, false), (23, false)]) (out := out_cert_Put_5) (S := S_cert_Put_5) (fun _ K => B_cert_Put_5 (fun e2 e3 => K .ret (St.ofList [(2, (.v (.sl 5 (.int .u8)) (.o .s) e2)), (3, (.v (.int .i64) .s e3))])) (fun e4 e5 => K (.exit 0) (St.ofList [(4, (.v .bool .s e4)), (5, (.v (.ptr 22 (.sl 5 (.int .u8))) (.o (.o .s)) (some e5)))]))) fuel_cert_Put_5 5 step_cert_Put_5 (by kernel_rfl) (fun R K => fun st => mV .bool .s (st 4) fun y4 => mP 22 (.sl 5 (.int .u8)) (.o (.o .s)) (st 5) fun y5 => mFn 36 [] [(5, [.der])] (st 6) (mV (.sl 89 (.pair (.sl 86 (.sl 85 Ty0)) .unit)) .s (st 21) fun y21 => mV (.int .i64) .s (st 22) fun y22 => mV (.int .i64) .s (st 23) fun y23 => loopN (B_cert_Put_5 (fun e2 e3 => K .ret (St.ofList [(2, (.v (.sl 5 (.int .u8)) (.o .s) e2)), (3, (.v (.int .i64) .s e3))])) (fun e4 e5 => K (.exit 0) (St.ofList [(4, (.v .bool .s e4)), (5, (.v (.ptr 22 (.sl 5 (.int .u8))) (.o (.o .s)) (some e5)))]))) (fuel_cert_Put_5 ⟨y4, y5, y21, y22, y23⟩) ⟨y4, y5, y21, y22, y23⟩)) (fun R st K => by kernel_rfl) ?_
  intro R K st r h
  obtain ⟨y4, hy4, h⟩ := mV_inv h
  obtain ⟨y5, hy5, h⟩ := mP_inv h
  obtain ⟨hy6, h⟩ := mFn_inv h
  obtain ⟨y21, hy21, h⟩ := mV_inv h
  obtain ⟨y22, hy22, h⟩ := mV_inv h
  obtain ⟨y23, hy23, h⟩ := mV_inv h
  exact ⟨⟨y4, y5, y21, y22, y23⟩, only_of_list (ofList_cons hy4 (ofList_cons hy5 (ofList_cons hy6 (ofList_cons hy21 (ofList_cons hy22 (ofList_cons hy23 rfl)))))), h⟩
theorem loops_cert_Put : LoopsOk env_cert_Put lp_cert_Put inl_cert_Put (body Try.f16.body) := by
  refine loopsOk_of (fun c hc => ?_) (fun c hc => ?_)
  · rw [show loopsL (body Try.f16.body) = [c_cert_Put_5, c_cert_Put_10, c_cert_Put_15] by kernel_rfl] at hc
    simp only [List.mem_cons, List.not_mem_nil, or_false] at hc
    rcases hc with rfl | rfl | rfl
    · exact ok_cert_Put_5
    · exact ok_cert_Put_10
    · exact ok_cert_Put_15
  · rw [show joinsL env_cert_Put (body Try.f16.body) = [] by kernel_rfl] at hc; cases hc
noncomputable def p_cert_Put {R : Type} (a0 : List (It1)) (K : (List (Int)) → Int → Option R) : Option R :=
  let v1 := ((List.length a0 : Nat) : Int)
  let v2 := decide (v1 > (64 : Int))
  let v3 := ((List.length a0 : Nat) : Int)
  let v4 := IntKind.u64.wrap v3
  p_leb_PutU ([] : List (Int)) v4 fun r5 =>
  let v6 := ((List.length a0 : Nat) : Int)
  loopN (B_cert_Put_5 (fun w7 w8 =>
  K w7 w8) (fun w9 w10 =>
  cond w9
  (K ([] : List (Int)) (4 : Int))
  (let v11 := ((List.length w10 : Nat) : Int)
  let v12 := decide (v11 > (65536 : Int))
  cond v12
  (K ([] : List (Int)) (4 : Int))
  (K w10 (0 : Int))))) (fuel_cert_Put_5 ⟨v2, r5, a0, v6, (0 : Int)⟩) ⟨v2, r5, a0, v6, (0 : Int)⟩
noncomputable def cs_cert_Put : CSpec := { ins := [(.val (.sl 89 (.pair (.sl 86 (.sl 85 Ty0)) .unit)) .s)], outs := [((.sl 5 (.int .u8)), (.o .s)), ((.int .i64), .s)], fn := fun (d : (List (It1)) × Unit) K _ => p_cert_Put d.1 (fun r0 r1 => K ((r0, r1, ()) : (List (Int)) × Int × Unit) ((()) : Unit)) }
theorem h_cert_Put : Holds Try.prog 16 cs_cert_Put := by
  refine holds_of (env := env_cert_Put) (inl := inl_cert_Put) (fn := Try.f16) (code := body Try.f16.body) (rs := [(2, none), (3, none)]) (lp := lp_cert_Put) mixed ⟨envTyOk.ty, envTyOk.eq⟩ gamOk_cert_Put inlOk_cert_Put Try.func16 (by kernel_rfl) (by kernel_rfl) (by kernel_rfl) (by kernel_rfl) (by kernel_rfl) loops_cert_Put (by kernel_rfl) ?_
  intro d R K Kp res h
  have : evC env_cert_Put lp_cert_Put inl_cert_Put (body Try.f16.body) (St.start cs_cert_Put.ins d) (retK env_cert_Put cs_cert_Put.ins cs_cert_Put.outs [(2, none), (3, none)] cs_cert_Put.pan K Kp) = cs_cert_Put.fn d K Kp := by kernel_rfl
  rw [this]; exact h
-- f83 trammel/leb.most
noncomputable def env_leb_most : Env := { ty := envTy, eq := envEq, gam := noG, n := Try.f83.ntmps }
noncomputable def p_leb_most {R : Type} (a0 : Int) (K : Int → Option R) : Option R :=
  let v1 := IntKind.i64.wrap (a0 + (6 : Int))
  cond ((7 : Int) != 0)
  (let v2 := IntKind.i64.wrap (Int.tdiv v1 (7 : Int))
  K v2) none
noncomputable def cs_leb_most : CSpec := { ins := [(.val (.int .i64) .s)], outs := [((.int .i64), .s)], fn := fun (d : Int × Unit) K _ => p_leb_most d.1 (fun r0 => K ((r0, ()) : Int × Unit) ((()) : Unit)) }
theorem h_leb_most : Holds Try.prog 83 cs_leb_most := by
  refine holds_of (env := env_leb_most) (inl := inl0) (fn := Try.f83) (code := body Try.f83.body) (rs := [(2, none)]) (lp := lp0) mixed ⟨envTyOk.ty, envTyOk.eq⟩ (fun _ _ _ h => by cases h) inl0_ok Try.func83 (by kernel_rfl) (by kernel_rfl) (by kernel_rfl) (by kernel_rfl) (by kernel_rfl) (loopsOk_none (by kernel_rfl) (by kernel_rfl)) (by kernel_rfl) ?_
  intro d R K Kp res h
  have : evC env_leb_most lp0 inl0 (body Try.f83.body) (St.start cs_leb_most.ins d) (retK env_leb_most cs_leb_most.ins cs_leb_most.outs [(2, none)] cs_leb_most.pan K Kp) = cs_leb_most.fn d K Kp := by kernel_rfl
  rw [this]; exact h
-- f74 trammel/leb.raw
noncomputable def gam_leb_raw : FuncId → List FuncId → Option CSpec
  | 83, [] => some cs_leb_most
  | _, _ => none
noncomputable def env_leb_raw : Env := { ty := envTy, eq := envEq, gam := gam_leb_raw, n := Try.f74.ntmps }
theorem gamOk_leb_raw : EnvFn Try.prog env_leb_raw := by
  intro f gs c h
  unfold env_leb_raw gam_leb_raw at h
  simp only at h
  split at h <;> first | (cases h; done) | (cases h; exact h_leb_most)
structure X_leb_raw_5 where
  f1 : Int
  f8 : Int
  f17 : List (Int)
  f18 : Int
  f19 : Int

noncomputable def B_leb_raw_5 {R : Type} (k_ret : Int → Int → Int → Int → Option R) (k_exit_0 : Option R) (rec : X_leb_raw_5 → Option R) (x : X_leb_raw_5) : Option R :=
  let v1 := decide (x.f19 < x.f18)
  cond v1
  (cond (inB x.f19 (List.length x.f17))
  (let v2 := List.getD x.f17 x.f19.toNat (0 : Int)
  let v3 := IntKind.u8.wrap ((BitVec.ofInt IntKind.u8.bits v2 &&& BitVec.ofInt IntKind.u8.bits (127 : Int)).toNat)
  let v4 := IntKind.u64.wrap v3
  let v5 := IntKind.i64.wrap ((7 : Int) * x.f19)
  let v6 := IntKind.u64.wrap v5
  cond (decide (0 ≤ v6))
  (let v7 := shlI .u64 v4 v6
  let v8 := IntKind.u64.wrap ((BitVec.ofInt IntKind.u64.bits x.f8 ||| BitVec.ofInt IntKind.u64.bits v7).toNat)
  let v9 := decide (v2 < (128 : Int))
  cond v9
  (let v10 := IntKind.i64.wrap (x.f19 + (1 : Int))
  k_ret v8 v2 v10 (0 : Int))
  (let v11 := IntKind.i64.wrap (x.f19 + (1 : Int))
  p_leb_most x.f1 fun r12 =>
  let v13 := v11 == r12
  cond v13
  (k_ret (0 : Int) (0 : Int) (0 : Int) (2 : Int))
  (let v14 := IntKind.i64.wrap (x.f19 + (1 : Int))
  rec ⟨x.f1, v8, x.f17, x.f18, v14⟩))) none) none)
  (k_exit_0)
noncomputable def S_leb_raw_5 (x : X_leb_raw_5) : St := St.ofList [(1, (.v (.int .i64) .s x.f1)), (8, (.v (.int .u64) .s x.f8)), (17, (.v (.sl 5 (.int .u8)) .s x.f17)), (18, (.v (.int .i64) .s x.f18)), (19, (.v (.int .i64) .s x.f19))]
def out_leb_raw_5 : Ex → List (Nat × Bool) | .ret => [(4, false), (5, false), (6, false), (7, false)] | .exit 0 => [] | _ => []
noncomputable def fuel_leb_raw_5 (x : X_leb_raw_5) : Nat := fuel64
noncomputable def c_leb_raw_5 : Code := match loopAt 5 (body Try.f74.body) with | some c => c | none => .skip
noncomputable def lp_leb_raw : Loops := fun z i R st K => match z, i with
  | false, 5 => coerce [(1, false), (8, false), (17, false), (18, false), (19, false)] st (fun st => mV (.int .i64) .s (st 1) fun y1 => mV (.int .u64) .s (st 8) fun y8 => mV (.sl 5 (.int .u8)) .s (st 17) fun y17 => mV (.int .i64) .s (st 18) fun y18 => mV (.int .i64) .s (st 19) fun y19 => loopN (B_leb_raw_5 (fun e4 e5 e6 e7 => K .ret (St.ofList [(4, (.v (.int .u64) .s e4)), (5, (.v (.int .u8) .s e5)), (6, (.v (.int .i64) .s e6)), (7, (.v (.int .i64) .s e7))])) (K (.exit 0) (St.ofList []))) (fuel_leb_raw_5 ⟨y1, y8, y17, y18, y19⟩) ⟨y1, y8, y17, y18, y19⟩)
  | _, _ => none
theorem step_leb_raw_5 (R : Type) (K : Ex → St → Option R) (rec : St → Option R) (x : X_leb_raw_5) : evC env_leb_raw lp_leb_raw inl0 c_leb_raw_5 (S_leb_raw_5 x) (fun e st => match e with | .normal => coerce [(1, false), (8, false), (17, false), (18, false), (19, false)] st rec | e => coerce (out_leb_raw_5 e) st (K e)) = B_leb_raw_5 (fun e4 e5 e6 e7 => K .ret (St.ofList [(4, (.v (.int .u64) .s e4)), (5, (.v (.int .u8) .s e5)), (6, (.v (.int .i64) .s e6)), (7, (.v (.int .i64) .s e7))])) (K (.exit 0) (St.ofList [])) (fun x => rec (S_leb_raw_5 x)) x := by kernel_rfl
theorem ok_leb_raw_5 : LoopOk env_leb_raw lp_leb_raw inl0 c_leb_raw_5 := by
  refine loopOk_of (hd := [(1, false), (8, false), (17, false), (18, false), (19, false)]) (out := out_leb_raw_5) (S := S_leb_raw_5) (fun _ K => B_leb_raw_5 (fun e4 e5 e6 e7 => K .ret (St.ofList [(4, (.v (.int .u64) .s e4)), (5, (.v (.int .u8) .s e5)), (6, (.v (.int .i64) .s e6)), (7, (.v (.int .i64) .s e7))])) (K (.exit 0) (St.ofList []))) fuel_leb_raw_5 5 step_leb_raw_5 (by kernel_rfl) (fun R K => fun st => mV (.int .i64) .s (st 1) fun y1 => mV (.int .u64) .s (st 8) fun y8 => mV (.sl 5 (.int .u8)) .s (st 17) fun y17 => mV (.int .i64) .s (st 18) fun y18 => mV (.int .i64) .s (st 19) fun y19 => loopN (B_leb_raw_5 (fun e4 e5 e6 e7 => K .ret (St.ofList [(4, (.v (.int .u64) .s e4)), (5, (.v (.int .u8) .s e5)), (6, (.v (.int .i64) .s e6)), (7, (.v (.int .i64) .s e7))])) (K (.exit 0) (St.ofList []))) (fuel_leb_raw_5 ⟨y1, y8, y17, y18, y19⟩) ⟨y1, y8, y17, y18, y19⟩) (fun R st K => by kernel_rfl) ?_
  intro R K st r h
  obtain ⟨y1, hy1, h⟩ := mV_inv h
  obtain ⟨y8, hy8, h⟩ := mV_inv h
  obtain ⟨y17, hy17, h⟩ := mV_inv h
  obtain ⟨y18, hy18, h⟩ := mV_inv h
  obtain ⟨y19, hy19, h⟩ := mV_inv h
  exact ⟨⟨y1, y8, y17, y18, y19⟩, only_of_list (ofList_cons hy1 (ofList_cons hy8 (ofList_cons hy17 (ofList_cons hy18 (ofList_cons hy19 rfl))))), h⟩
theorem loops_leb_raw : LoopsOk env_leb_raw lp_leb_raw inl0 (body Try.f74.body) := by
  refine loopsOk_of (fun c hc => ?_) (fun c hc => ?_)
  · rw [show loopsL (body Try.f74.body) = [c_leb_raw_5] by kernel_rfl] at hc
    simp only [List.mem_cons, List.not_mem_nil, or_false] at hc
    rcases hc with rfl
    · exact ok_leb_raw_5
  · rw [show joinsL env_leb_raw (body Try.f74.body) = [] by kernel_rfl] at hc; cases hc
noncomputable def p_leb_raw {R : Type} (a0 : List (Int)) (a1 : Int) (K : Int → Int → Int → Int → Option R) : Option R :=
  let v1 := decide (a1 < (1 : Int))
  cond v1
  (K (0 : Int) (0 : Int) (0 : Int) (5 : Int))
  (let v2 := decide (a1 > (64 : Int))
  cond v2
  (K (0 : Int) (0 : Int) (0 : Int) (5 : Int))
  (let v3 := ((List.length a0 : Nat) : Int)
  loopN (B_leb_raw_5 (fun w4 w5 w6 w7 =>
  K w4 w5 w6 w7) (K (0 : Int) (0 : Int) (0 : Int) (1 : Int))) (fuel_leb_raw_5 ⟨a1, (0 : Int), a0, v3, (0 : Int)⟩) ⟨a1, (0 : Int), a0, v3, (0 : Int)⟩))
noncomputable def cs_leb_raw : CSpec := { ins := [(.val (.sl 5 (.int .u8)) .s), (.val (.int .i64) .s)], outs := [((.int .u64), .s), ((.int .u8), .s), ((.int .i64), .s), ((.int .i64), .s)], fn := fun (d : (List (Int)) × Int × Unit) K _ => p_leb_raw d.1 d.2.1 (fun r0 r1 r2 r3 => K ((r0, r1, r2, r3, ()) : Int × Int × Int × Int × Unit) ((()) : Unit)) }
theorem h_leb_raw : Holds Try.prog 74 cs_leb_raw := by
  refine holds_of (env := env_leb_raw) (inl := inl0) (fn := Try.f74) (code := body Try.f74.body) (rs := [(4, none), (5, none), (6, none), (7, none)]) (lp := lp_leb_raw) mixed ⟨envTyOk.ty, envTyOk.eq⟩ gamOk_leb_raw inl0_ok Try.func74 (by kernel_rfl) (by kernel_rfl) (by kernel_rfl) (by kernel_rfl) (by kernel_rfl) loops_leb_raw (by kernel_rfl) ?_
  intro d R K Kp res h
  have : evC env_leb_raw lp_leb_raw inl0 (body Try.f74.body) (St.start cs_leb_raw.ins d) (retK env_leb_raw cs_leb_raw.ins cs_leb_raw.outs [(4, none), (5, none), (6, none), (7, none)] cs_leb_raw.pan K Kp) = cs_leb_raw.fn d K Kp := by kernel_rfl
  rw [this]; exact h
-- f34 trammel/leb.U
noncomputable def gam_leb_U : FuncId → List FuncId → Option CSpec
  | 74, [] => some cs_leb_raw
  | _, _ => none
noncomputable def env_leb_U : Env := { ty := envTy, eq := envEq, gam := gam_leb_U, n := Try.f34.ntmps }
theorem gamOk_leb_U : EnvFn Try.prog env_leb_U := by
  intro f gs c h
  unfold env_leb_U gam_leb_U at h
  simp only at h
  split at h <;> first | (cases h; done) | (cases h; exact h_leb_raw)
noncomputable def p_leb_U {R : Type} (a0 : List (Int)) (a1 : Int) (K : Int → Int → Int → Option R) : Option R :=
  p_leb_raw a0 a1 fun r1 r2 r3 r4 =>
  let v5 := r4 != (0 : Int)
  cond v5
  (K (0 : Int) (0 : Int) r4)
  (let v6 := IntKind.i64.wrap (r3 - (1 : Int))
  let v7 := IntKind.i64.wrap ((7 : Int) * v6)
  let v8 := IntKind.i64.wrap (a1 - v7)
  let v9 := decide (v8 < (7 : Int))
  cond v9
  (let v10 := IntKind.u64.wrap v8
  cond (decide (0 ≤ v10))
  (let v11 := shrI .u8 r2 v10
  let v12 := v11 != (0 : Int)
  cond v12
  (K (0 : Int) (0 : Int) (2 : Int))
  (K r1 r3 (0 : Int))) none)
  (K r1 r3 (0 : Int)))
noncomputable def cs_leb_U : CSpec := { ins := [(.val (.sl 5 (.int .u8)) .s), (.val (.int .i64) .s)], outs := [((.int .u64), .s), ((.int .i64), .s), ((.int .i64), .s)], fn := fun (d : (List (Int)) × Int × Unit) K _ => p_leb_U d.1 d.2.1 (fun r0 r1 r2 => K ((r0, r1, r2, ()) : Int × Int × Int × Unit) ((()) : Unit)) }
theorem h_leb_U : Holds Try.prog 34 cs_leb_U := by
  refine holds_of (env := env_leb_U) (inl := inl0) (fn := Try.f34) (code := body Try.f34.body) (rs := [(4, none), (5, none), (6, none)]) (lp := lp0) mixed ⟨envTyOk.ty, envTyOk.eq⟩ gamOk_leb_U inl0_ok Try.func34 (by kernel_rfl) (by kernel_rfl) (by kernel_rfl) (by kernel_rfl) (by kernel_rfl) (loopsOk_none (by kernel_rfl) (by kernel_rfl)) (by kernel_rfl) ?_
  intro d R K Kp res h
  have : evC env_leb_U lp0 inl0 (body Try.f34.body) (St.start cs_leb_U.ins d) (retK env_leb_U cs_leb_U.ins cs_leb_U.outs [(4, none), (5, none), (6, none)] cs_leb_U.pan K Kp) = cs_leb_U.fn d K Kp := by kernel_rfl
  rw [this]; exact h
-- f77 (*trammel/cert.reader).u
noncomputable def gam_cert_reader_u : FuncId → List FuncId → Option CSpec
  | 34, [] => some cs_leb_U
  | 33, [] => some cs_leb_PutU
  | _, _ => none
noncomputable def sb_cert_reader_u : Nat → Bool
  | 41 => true
  | _ => false
noncomputable def env_cert_reader_u : Env := { ty := envTy, eq := envEq, gam := gam_cert_reader_u, n := Try.f77.ntmps, sb := sb_cert_reader_u }
theorem gamOk_cert_reader_u : EnvFn Try.prog env_cert_reader_u := by
  intro f gs c h
  unfold env_cert_reader_u gam_cert_reader_u at h
  simp only at h
  split at h <;> first | (cases h; done) | (cases h; exact h_leb_U) | (cases h; exact h_leb_PutU)
noncomputable def p_cert_reader_u {R : Type} (a0 : (List (Int)) × (Int) × Unit) (K : Int → ((List (Int)) × (Int) × Unit) → Option R) : Option R :=
  let v1 := a0.2.1 != (0 : Int)
  cond v1
  (K (0 : Int) a0)
  (p_leb_U a0.1 (64 : Int) fun r2 r3 r4 =>
  let v5 := r4 == (0 : Int)
  cond v5
  (p_leb_PutU ([] : List (Int)) r2 fun r6 =>
  let v7 := ((List.length r6 : Nat) : Int)
  let v8 := v7 != r3
  cond v8
  (let v9 := (2 : Int) != (0 : Int)
  cond v9
  (K (0 : Int) (a0.1, ((2 : Int), a0.2.2)))
  (cond (inR r3 ((List.length a0.1 : Nat) : Int) (List.length a0.1))
  (let v10 := rng a0.1 r3 ((List.length a0.1 : Nat) : Int)
  K r2 (v10, a0.2)) none))
  (let v11 := r4 != (0 : Int)
  cond v11
  (K (0 : Int) (a0.1, (r4, a0.2.2)))
  (cond (inR r3 ((List.length a0.1 : Nat) : Int) (List.length a0.1))
  (let v12 := rng a0.1 r3 ((List.length a0.1 : Nat) : Int)
  K r2 (v12, a0.2)) none)))
  (let v13 := r4 != (0 : Int)
  cond v13
  (K (0 : Int) (a0.1, (r4, a0.2.2)))
  (cond (inR r3 ((List.length a0.1 : Nat) : Int) (List.length a0.1))
  (let v14 := rng a0.1 r3 ((List.length a0.1 : Nat) : Int)
  K r2 (v14, a0.2)) none)))
noncomputable def cs_cert_reader_u : CSpec := { ins := [(.ref (.pair (.sl 5 (.int .u8)) (.pair (.int .i64) .unit)) .s .s)], outs := [((.int .u64), .s)], fn := fun (d : ((List (Int)) × (Int) × Unit) × Unit) K _ => p_cert_reader_u d.1 (fun r0 b0 => K ((r0, ()) : Int × Unit) ((b0, ()) : ((List (Int)) × (Int) × Unit) × Unit)) }
theorem h_cert_reader_u : Holds Try.prog 77 cs_cert_reader_u := by
  refine holds_of (env := env_cert_reader_u) (inl := inl0) (fn := Try.f77) (code := body Try.f77.body) (rs := [(2, none)]) (lp := lp0) mixed ⟨envTyOk.ty, envTyOk.eq⟩ gamOk_cert_reader_u inl0_ok Try.func77 (by kernel_rfl) (by kernel_rfl) (by kernel_rfl) (by kernel_rfl) (by kernel_rfl) (loopsOk_none (by kernel_rfl) (by kernel_rfl)) (by kernel_rfl) ?_
  intro d R K Kp res h
  have : evC env_cert_reader_u lp0 inl0 (body Try.f77.body) (St.start cs_cert_reader_u.ins d) (retK env_cert_reader_u cs_cert_reader_u.ins cs_cert_reader_u.outs [(2, none)] cs_cert_reader_u.pan K Kp) = cs_cert_reader_u.fn d K Kp := by kernel_rfl
  rw [this]; exact h
-- f40 (*trammel/cert.reader).count
noncomputable def gam_cert_reader_count : FuncId → List FuncId → Option CSpec
  | 77, [] => some cs_cert_reader_u
  | _, _ => none
noncomputable def env_cert_reader_count : Env := { ty := envTy, eq := envEq, gam := gam_cert_reader_count, n := Try.f40.ntmps, al := [0, 6] }
theorem gamOk_cert_reader_count : EnvFn Try.prog env_cert_reader_count := by
  intro f gs c h
  unfold env_cert_reader_count gam_cert_reader_count at h
  simp only at h
  split at h <;> first | (cases h; done) | (cases h; exact h_cert_reader_u)
noncomputable def p_cert_reader_count {R : Type} (a0 : (List (Int)) × (Int) × Unit) (a1 : Int) (K : Int → ((List (Int)) × (Int) × Unit) → Option R) : Option R :=
  p_cert_reader_u a0 fun r1 b2 =>
  let v3 := b2.2.1 == (0 : Int)
  cond v3
  (let v4 := IntKind.u64.wrap a1
  let v5 := decide (r1 > v4)
  cond v5
  (let v6 := (4 : Int) != (0 : Int)
  cond v6
  (K (0 : Int) (b2.1, ((4 : Int), b2.2.2)))
  (let v7 := IntKind.i64.wrap r1
  K v7 (b2.1, ((4 : Int), b2.2.2))))
  (let v8 := b2.2.1 != (0 : Int)
  cond v8
  (K (0 : Int) b2)
  (let v9 := IntKind.i64.wrap r1
  K v9 b2)))
  (let v10 := b2.2.1 != (0 : Int)
  cond v10
  (K (0 : Int) b2)
  (let v11 := IntKind.i64.wrap r1
  K v11 b2))
noncomputable def cs_cert_reader_count : CSpec := { ins := [(.ref (.pair (.sl 5 (.int .u8)) (.pair (.int .i64) .unit)) .s .s), (.val (.int .i64) .s)], outs := [((.int .i64), .s)], fn := fun (d : ((List (Int)) × (Int) × Unit) × Int × Unit) K _ => p_cert_reader_count d.1 d.2.1 (fun r0 b0 => K ((r0, ()) : Int × Unit) ((b0, ()) : ((List (Int)) × (Int) × Unit) × Unit)) }
theorem h_cert_reader_count : Holds Try.prog 40 cs_cert_reader_count := by
  refine holds_of (env := env_cert_reader_count) (inl := inl0) (fn := Try.f40) (code := body Try.f40.body) (rs := [(4, none)]) (lp := lp0) mixed ⟨envTyOk.ty, envTyOk.eq⟩ gamOk_cert_reader_count inl0_ok Try.func40 (by kernel_rfl) (by kernel_rfl) (by kernel_rfl) (by kernel_rfl) (by kernel_rfl) (loopsOk_none (by kernel_rfl) (by kernel_rfl)) (by kernel_rfl) ?_
  intro d R K Kp res h
  have : evC env_cert_reader_count lp0 inl0 (body Try.f40.body) (St.start cs_cert_reader_count.ins d) (retK env_cert_reader_count cs_cert_reader_count.ins cs_cert_reader_count.outs [(4, none)] cs_cert_reader_count.pan K Kp) = cs_cert_reader_count.fn d K Kp := by kernel_rfl
  rw [this]; exact h
-- f41 (*trammel/cert.reader).abs
noncomputable def gam_cert_reader_abs : FuncId → List FuncId → Option CSpec
  | 77, [] => some cs_cert_reader_u
  | 37, [] => some cs_abs_Right
  | _, _ => none
noncomputable def env_cert_reader_abs : Env := { ty := envTy, eq := envEq, gam := gam_cert_reader_abs, n := Try.f41.ntmps, al := [0, 5, 9, 13, 15] }
theorem gamOk_cert_reader_abs : EnvFn Try.prog env_cert_reader_abs := by
  intro f gs c h
  unfold env_cert_reader_abs gam_cert_reader_abs at h
  simp only at h
  split at h <;> first | (cases h; done) | (cases h; exact h_cert_reader_u) | (cases h; exact h_abs_Right)
noncomputable def p_cert_reader_abs {R : Type} (a0 : (List (Int)) × (Int) × Unit) (K : (((Int) × (Int) × Unit) × ((Int) × (Int) × Unit) × Unit) → ((List (Int)) × (Int) × Unit) → Option R) : Option R :=
  p_cert_reader_u a0 fun r1 b2 =>
  p_cert_reader_u b2 fun r3 b4 =>
  p_cert_reader_u b4 fun r5 b6 =>
  p_cert_reader_u b6 fun r7 b8 =>
  let v9 := minI r5 (65 : Int)
  let v10 := IntKind.i64.wrap v9
  let v11 := b8.2.1 == (0 : Int)
  cond v11
  (p_abs_Right ((r1, (r3, ())), ((v10, (r7, ())), ())) fun r12 =>
  let v13 := !r12
  cond v13
  (K ((r1, (r3, ())), ((v10, (r7, ())), ())) (b8.1, ((2 : Int), b8.2.2)))
  (K ((r1, (r3, ())), ((v10, (r7, ())), ())) b8))
  (K ((r1, (r3, ())), ((v10, (r7, ())), ())) b8)
noncomputable def cs_cert_reader_abs : CSpec := { ins := [(.ref (.pair (.sl 5 (.int .u8)) (.pair (.int .i64) .unit)) .s .s)], outs := [(Ty0, .s)], fn := fun (d : ((List (Int)) × (Int) × Unit) × Unit) K _ => p_cert_reader_abs d.1 (fun r0 b0 => K ((r0, ()) : (((Int) × (Int) × Unit) × ((Int) × (Int) × Unit) × Unit) × Unit) ((b0, ()) : ((List (Int)) × (Int) × Unit) × Unit)) }
theorem h_cert_reader_abs : Holds Try.prog 41 cs_cert_reader_abs := by
  refine holds_of (env := env_cert_reader_abs) (inl := inl0) (fn := Try.f41) (code := body Try.f41.body) (rs := [(2, some 85)]) (lp := lp0) mixed ⟨envTyOk.ty, envTyOk.eq⟩ gamOk_cert_reader_abs inl0_ok Try.func41 (by kernel_rfl) (by kernel_rfl) (by kernel_rfl) (by kernel_rfl) (by kernel_rfl) (loopsOk_none (by kernel_rfl) (by kernel_rfl)) (by kernel_rfl) ?_
  intro d R K Kp res h
  have : evC env_cert_reader_abs lp0 inl0 (body Try.f41.body) (St.start cs_cert_reader_abs.ins d) (retK env_cert_reader_abs cs_cert_reader_abs.ins cs_cert_reader_abs.outs [(2, some 85)] cs_cert_reader_abs.pan K Kp) = cs_cert_reader_abs.fn d K Kp := by kernel_rfl
  rw [this]; exact h
-- f19 trammel/cert.Read
noncomputable def gam_cert_Read : FuncId → List FuncId → Option CSpec
  | 40, [] => some cs_cert_reader_count
  | 41, [] => some cs_cert_reader_abs
  | _, _ => none
noncomputable def lv_cert_Read : Nat → Option (List Nat)
  | 0 => some [0]
  | 1 => some [0]
  | 2 => some []
  | 3 => some [0]
  | 4 => some [4]
  | 5 => some [4, 5]
  | 6 => some [4, 5, 6]
  | 7 => some [4, 5, 6]
  | 8 => some [4, 5, 6]
  | 9 => some [4, 5, 6, 7]
  | 10 => some [4, 5, 6, 7, 8]
  | 11 => some [4, 5, 6, 7, 8]
  | 12 => some [4, 5, 6, 7, 8]
  | 13 => some [4, 5, 6, 7, 8, 9]
  | 14 => some [4, 5, 6, 7, 8, 9, 10]
  | 15 => some [4, 5, 6, 7, 8, 9, 10]
  | 16 => some [4, 5, 6, 7, 8, 9, 10]
  | 17 => some [4, 5, 6, 7, 8, 9]
  | 18 => some [4, 5, 6, 7]
  | 19 => some [4, 5]
  | 20 => some [4, 5]
  | 21 => some [4, 5]
  | 22 => some [4]
  | 23 => some [5]
  | _ => none
noncomputable def env_cert_Read : Env := { ty := envTy, eq := envEq, gam := gam_cert_Read, n := Try.f19.ntmps, lv := lv_cert_Read, al := [23, 24, 36, 37, 50, 51] }
theorem gamOk_cert_Read : EnvFn Try.prog env_cert_Read := by
  intro f gs c h
  unfold env_cert_Read gam_cert_Read at h
  simp only at h
  split at h <;> first | (cases h; done) | (cases h; exact h_cert_reader_count) | (cases h; exact h_cert_reader_abs)
structure X_cert_Read_14 where
  f4 : (List (Int)) × (Int) × Unit
  f5 : List (It1)
  f6 : Int
  f7 : It1
  f8 : Int
  f9 : List (((Int) × (Int) × Unit) × ((Int) × (Int) × Unit) × Unit)
  f10 : Int

noncomputable def B_cert_Read_14 {R : Type} (k_exit_4 : ((List (Int)) × (Int) × Unit) → (List (It1)) → Int → It1 → Int → (List (((Int) × (Int) × Unit) × ((Int) × (Int) × Unit) × Unit)) → Option R) (rec : X_cert_Read_14 → Option R) (x : X_cert_Read_14) : Option R :=
  let v1 := decide (x.f10 > (0 : Int))
  cond v1
  (let v2 := x.f4.2.1 == (0 : Int)
  cond v2
  (p_cert_reader_abs x.f4 fun r3 b4 =>
  let v5 := List.set (List.replicate 1 (((0 : Int), ((0 : Int), ())), (((0 : Int), ((0 : Int), ())), ()))) 0 r3
  cond (decide (List.length x.f9 + List.length v5 ≤ most))
  (let v6 := x.f9 ++ v5
  let v7 := IntKind.i64.wrap (x.f10 - (1 : Int))
  rec ⟨b4, x.f5, x.f6, x.f7, x.f8, v6, v7⟩) none)
  (k_exit_4 x.f4 x.f5 x.f6 x.f7 x.f8 x.f9))
  (k_exit_4 x.f4 x.f5 x.f6 x.f7 x.f8 x.f9)
noncomputable def S_cert_Read_14 (x : X_cert_Read_14) : St := St.ofList [(4, (.v (.ptr 96 (.pair (.sl 5 (.int .u8)) (.pair (.int .i64) .unit))) (.o .s) (some x.f4))), (5, (.v (.sl 89 (.pair (.sl 86 (.sl 85 Ty0)) .unit)) (.o .s) x.f5)), (6, (.v (.int .i64) .s x.f6)), (7, (.v (.ptr 89 (.pair (.sl 86 (.sl 85 Ty0)) .unit)) (.o (.p (.o .s) .s)) (some x.f7))), (8, (.v (.int .i64) .s x.f8)), (9, (.v (.sl 85 Ty0) (.o .s) x.f9)), (10, (.v (.int .i64) .s x.f10))]
def out_cert_Read_14 : Ex → List (Nat × Bool) | .exit 4 => [(4, false), (5, false), (6, false), (7, false), (8, false), (9, false)] | _ => []
noncomputable def fuel_cert_Read_14 (x : X_cert_Read_14) : Nat := fuel64
noncomputable def c_cert_Read_14 : Code := match loopAt 14 (body Try.f19.body) with | some c => c | none => .skip
structure X_cert_Read_10 where
  f4 : (List (Int)) × (Int) × Unit
  f5 : List (It1)
  f6 : Int
  f7 : It1
  f8 : Int

noncomputable def B_cert_Read_10 {R : Type} (k_exit_2 : ((List (Int)) × (Int) × Unit) → (List (It1)) → Int → It1 → Option R) (rec : X_cert_Read_10 → Option R) (x : X_cert_Read_10) : Option R :=
  let v1 := decide (x.f8 > (0 : Int))
  cond v1
  (let v2 := x.f4.2.1 == (0 : Int)
  cond v2
  (let v3 := List.replicate 0 (((0 : Int), ((0 : Int), ())), (((0 : Int), ((0 : Int), ())), ()))
  p_cert_reader_count x.f4 (64 : Int) fun r4 b5 =>
  loopN (B_cert_Read_14 (fun w6 w7 w8 w9 w10 w11 =>
  let v12 := List.set (List.replicate 1 ([] : List (((Int) × (Int) × Unit) × ((Int) × (Int) × Unit) × Unit))) 0 w11
  cond (decide (List.length w9.1 + List.length v12 ≤ most))
  (let v13 := w9.1 ++ v12
  let v14 := IntKind.i64.wrap (w10 - (1 : Int))
  rec ⟨w6, w7, w8, (v13, w9.2), v14⟩) none)) (fuel_cert_Read_14 ⟨b5, x.f5, x.f6, x.f7, x.f8, v3, r4⟩) ⟨b5, x.f5, x.f6, x.f7, x.f8, v3, r4⟩)
  (k_exit_2 x.f4 x.f5 x.f6 x.f7))
  (k_exit_2 x.f4 x.f5 x.f6 x.f7)
noncomputable def S_cert_Read_10 (x : X_cert_Read_10) : St := St.ofList [(4, (.v (.ptr 96 (.pair (.sl 5 (.int .u8)) (.pair (.int .i64) .unit))) (.o .s) (some x.f4))), (5, (.v (.sl 89 (.pair (.sl 86 (.sl 85 Ty0)) .unit)) (.o .s) x.f5)), (6, (.v (.int .i64) .s x.f6)), (7, (.v (.ptr 89 (.pair (.sl 86 (.sl 85 Ty0)) .unit)) (.o (.p (.o .s) .s)) (some x.f7))), (8, (.v (.int .i64) .s x.f8))]
def out_cert_Read_10 : Ex → List (Nat × Bool) | .exit 2 => [(4, false), (5, false), (6, false), (7, false)] | _ => []
noncomputable def fuel_cert_Read_10 (x : X_cert_Read_10) : Nat := fuel64
noncomputable def c_cert_Read_10 : Code := match loopAt 10 (body Try.f19.body) with | some c => c | none => .skip
structure X_cert_Read_6 where
  f4 : (List (Int)) × (Int) × Unit
  f5 : List (It1)
  f6 : Int

noncomputable def B_cert_Read_6 {R : Type} (k_exit_0 : ((List (Int)) × (Int) × Unit) → (List (It1)) → Option R) (rec : X_cert_Read_6 → Option R) (x : X_cert_Read_6) : Option R :=
  let v1 := decide (x.f6 > (0 : Int))
  cond v1
  (let v2 := x.f4.2.1 == (0 : Int)
  cond v2
  (p_cert_reader_count x.f4 (2000 : Int) fun r3 b4 =>
  loopN (B_cert_Read_10 (fun w5 w6 w7 w8 =>
  let v9 := List.set (List.replicate 1 (([] : List (List (((Int) × (Int) × Unit) × ((Int) × (Int) × Unit) × Unit))), ())) 0 w8
  cond (decide (List.length w6 + List.length v9 ≤ most))
  (let v10 := w6 ++ v9
  let v11 := IntKind.i64.wrap (w7 - (1 : Int))
  rec ⟨w5, v10, v11⟩) none)) (fuel_cert_Read_10 ⟨b4, x.f5, x.f6, (([] : List (List (((Int) × (Int) × Unit) × ((Int) × (Int) × Unit) × Unit))), ()), r3⟩) ⟨b4, x.f5, x.f6, (([] : List (List (((Int) × (Int) × Unit) × ((Int) × (Int) × Unit) × Unit))), ()), r3⟩)
  (k_exit_0 x.f4 x.f5))
  (k_exit_0 x.f4 x.f5)
noncomputable def S_cert_Read_6 (x : X_cert_Read_6) : St := St.ofList [(4, (.v (.ptr 96 (.pair (.sl 5 (.int .u8)) (.pair (.int .i64) .unit))) (.o .s) (some x.f4))), (5, (.v (.sl 89 (.pair (.sl 86 (.sl 85 Ty0)) .unit)) (.o .s) x.f5)), (6, (.v (.int .i64) .s x.f6))]
def out_cert_Read_6 : Ex → List (Nat × Bool) | .exit 0 => [(4, false), (5, false)] | _ => []
noncomputable def fuel_cert_Read_6 (x : X_cert_Read_6) : Nat := fuel64
noncomputable def c_cert_Read_6 : Code := match loopAt 6 (body Try.f19.body) with | some c => c | none => .skip
noncomputable def lp_cert_Read : Loops := fun z i R st K => match z, i with
  | false, 14 => coerce [(4, false), (5, false), (6, false), (7, false), (8, false), (9, false), (10, false)] st (fun st => mP 96 (.pair (.sl 5 (.int .u8)) (.pair (.int .i64) .unit)) (.o .s) (st 4) fun y4 => mV (.sl 89 (.pair (.sl 86 (.sl 85 Ty0)) .unit)) (.o .s) (st 5) fun y5 => mV (.int .i64) .s (st 6) fun y6 => mP 89 (.pair (.sl 86 (.sl 85 Ty0)) .unit) (.o (.p (.o .s) .s)) (st 7) fun y7 => mV (.int .i64) .s (st 8) fun y8 => mV (.sl 85 Ty0) (.o .s) (st 9) fun y9 => mV (.int .i64) .s (st 10) fun y10 => loopN (B_cert_Read_14 (fun e4 e5 e6 e7 e8 e9 => K (.exit 4) (St.ofList [(4, (.v (.ptr 96 (.pair (.sl 5 (.int .u8)) (.pair (.int .i64) .unit))) (.o .s) (some e4))), (5, (.v (.sl 89 (.pair (.sl 86 (.sl 85 Ty0)) .unit)) (.o .s) e5)), (6, (.v (.int .i64) .s e6)), (7, (.v (.ptr 89 (.pair (.sl 86 (.sl 85 Ty0)) .unit)) (.o (.p (.o .s) .s)) (some e7))), (8, (.v (.int .i64) .s e8)), (9, (.v (.sl 85 Ty0) (.o .s) e9))]))) (fuel_cert_Read_14 ⟨y4, y5, y6, y7, y8, y9, y10⟩) ⟨y4, y5, y6, y7, y8, y9, y10⟩)
  | false, 10 => coerce [(4, false), (5, false), (6, false), (7, false), (8, false)] st (fun st => mP 96 (.pair (.sl 5 (.int .u8)) (.pair (.int .i64) .unit)) (.o .s) (st 4) fun y4 => mV (.sl 89 (.pair (.sl 86 (.sl 85 Ty0)) .unit)) (.o .s) (st 5) fun y5 => mV (.int .i64) .s (st 6) fun y6 => mP 89 (.pair (.sl 86 (.sl 85 Ty0)) .unit) (.o (.p (.o .s) .s)) (st 7) fun y7 => mV (.int .i64) .s (st 8) fun y8 => loopN (B_cert_Read_10 (fun e4 e5 e6 e7 => K (.exit 2) (St.ofList [(4, (.v (.ptr 96 (.pair (.sl 5 (.int .u8)) (.pair (.int .i64) .unit))) (.o .s) (some e4))), (5, (.v (.sl 89 (.pair (.sl 86 (.sl 85 Ty0)) .unit)) (.o .s) e5)), (6, (.v (.int .i64) .s e6)), (7, (.v (.ptr 89 (.pair (.sl 86 (.sl 85 Ty0)) .unit)) (.o (.p (.o .s) .s)) (some e7)))]))) (fuel_cert_Read_10 ⟨y4, y5, y6, y7, y8⟩) ⟨y4, y5, y6, y7, y8⟩)
  | false, 6 => coerce [(4, false), (5, false), (6, false)] st (fun st => mP 96 (.pair (.sl 5 (.int .u8)) (.pair (.int .i64) .unit)) (.o .s) (st 4) fun y4 => mV (.sl 89 (.pair (.sl 86 (.sl 85 Ty0)) .unit)) (.o .s) (st 5) fun y5 => mV (.int .i64) .s (st 6) fun y6 => loopN (B_cert_Read_6 (fun e4 e5 => K (.exit 0) (St.ofList [(4, (.v (.ptr 96 (.pair (.sl 5 (.int .u8)) (.pair (.int .i64) .unit))) (.o .s) (some e4))), (5, (.v (.sl 89 (.pair (.sl 86 (.sl 85 Ty0)) .unit)) (.o .s) e5))]))) (fuel_cert_Read_6 ⟨y4, y5, y6⟩) ⟨y4, y5, y6⟩)
  | _, _ => none
theorem step_cert_Read_14 (R : Type) (K : Ex → St → Option R) (rec : St → Option R) (x : X_cert_Read_14) : evC env_cert_Read lp_cert_Read inl0 c_cert_Read_14 (S_cert_Read_14 x) (fun e st => match e with | .normal => coerce [(4, false), (5, false), (6, false), (7, false), (8, false), (9, false), (10, false)] st rec | e => coerce (out_cert_Read_14 e) st (K e)) = B_cert_Read_14 (fun e4 e5 e6 e7 e8 e9 => K (.exit 4) (St.ofList [(4, (.v (.ptr 96 (.pair (.sl 5 (.int .u8)) (.pair (.int .i64) .unit))) (.o .s) (some e4))), (5, (.v (.sl 89 (.pair (.sl 86 (.sl 85 Ty0)) .unit)) (.o .s) e5)), (6, (.v (.int .i64) .s e6)), (7, (.v (.ptr 89 (.pair (.sl 86 (.sl 85 Ty0)) .unit)) (.o (.p (.o .s) .s)) (some e7))), (8, (.v (.int .i64) .s e8)), (9, (.v (.sl 85 Ty0) (.o .s) e9))])) (fun x => rec (S_cert_Read_14 x)) x := by kernel_rfl
theorem ok_cert_Read_14 : LoopOk env_cert_Read lp_cert_Read inl0 c_cert_Read_14 := by
  refine loopOk_of (hd := [(4, false), (5, false), (6, false), (7, false), (8, false), (9, false), (10, false)]) (out := out_cert_Read_14) (S := S_cert_Read_14) (fun _ K => B_cert_Read_14 (fun e4 e5 e6 e7 e8 e9 => K (.exit 4) (St.ofList [(4, (.v (.ptr 96 (.pair (.sl 5 (.int .u8)) (.pair (.int .i64) .unit))) (.o .s) (some e4))), (5, (.v (.sl 89 (.pair (.sl 86 (.sl 85 Ty0)) .unit)) (.o .s) e5)), (6, (.v (.int .i64) .s e6)), (7, (.v (.ptr 89 (.pair (.sl 86 (.sl 85 Ty0)) .unit)) (.o (.p (.o .s) .s)) (some e7))), (8, (.v (.int .i64) .s e8)), (9, (.v (.sl 85 Ty0) (.o .s) e9))]))) fuel_cert_Read_14 14 step_cert_Read_14 (by kernel_rfl) (fun R K => fun st => mP 96 (.pair (.sl 5 (.int .u8)) (.pair (.int .i64) .unit)) (.o .s) (st 4) fun y4 => mV (.sl 89 (.pair (.sl 86 (.sl 85 Ty0)) .unit)) (.o .s) (st 5) fun y5 => mV (.int .i64) .s (st 6) fun y6 => mP 89 (.pair (.sl 86 (.sl 85 Ty0)) .unit) (.o (.p (.o .s) .s)) (st 7) fun y7 => mV (.int .i64) .s (st 8) fun y8 => mV (.sl 85 Ty0) (.o .s) (st 9) fun y9 => mV (.int .i64) .s (st 10) fun y10 => loopN (B_cert_Read_14 (fun e4 e5 e6 e7 e8 e9 => K (.exit 4) (St.ofList [(4, (.v (.ptr 96 (.pair (.sl 5 (.int .u8)) (.pair (.int .i64) .unit))) (.o .s) (some e4))), (5, (.v (.sl 89 (.pair (.sl 86 (.sl 85 Ty0)) .unit)) (.o .s) e5)), (6, (.v (.int .i64) .s e6)), (7, (.v (.ptr 89 (.pair (.sl 86 (.sl 85 Ty0)) .unit)) (.o (.p (.o .s) .s)) (some e7))), (8, (.v (.int .i64) .s e8)), (9, (.v (.sl 85 Ty0) (.o .s) e9))]))) (fuel_cert_Read_14 ⟨y4, y5, y6, y7, y8, y9, y10⟩) ⟨y4, y5, y6, y7, y8, y9, y10⟩) (fun R st K => by kernel_rfl) ?_
  intro R K st r h
  obtain ⟨y4, hy4, h⟩ := mP_inv h
  obtain ⟨y5, hy5, h⟩ := mV_inv h
  obtain ⟨y6, hy6, h⟩ := mV_inv h
  obtain ⟨y7, hy7, h⟩ := mP_inv h
  obtain ⟨y8, hy8, h⟩ := mV_inv h
  obtain ⟨y9, hy9, h⟩ := mV_inv h
  obtain ⟨y10, hy10, h⟩ := mV_inv h
  exact ⟨⟨y4, y5, y6, y7, y8, y9, y10⟩, only_of_list (ofList_cons hy4 (ofList_cons hy5 (ofList_cons hy6 (ofList_cons hy7 (ofList_cons hy8 (ofList_cons hy9 (ofList_cons hy10 rfl))))))), h⟩
theorem step_cert_Read_10 (R : Type) (K : Ex → St → Option R) (rec : St → Option R) (x : X_cert_Read_10) : evC env_cert_Read lp_cert_Read inl0 c_cert_Read_10 (S_cert_Read_10 x) (fun e st => match e with | .normal => coerce [(4, false), (5, false), (6, false), (7, false), (8, false)] st rec | e => coerce (out_cert_Read_10 e) st (K e)) = B_cert_Read_10 (fun e4 e5 e6 e7 => K (.exit 2) (St.ofList [(4, (.v (.ptr 96 (.pair (.sl 5 (.int .u8)) (.pair (.int .i64) .unit))) (.o .s) (some e4))), (5, (.v (.sl 89 (.pair (.sl 86 (.sl 85 Ty0)) .unit)) (.o .s) e5)), (6, (.v (.int .i64) .s e6)), (7, (.v (.ptr 89 (.pair (.sl 86 (.sl 85 Ty0)) .unit)) (.o (.p (.o .s) .s)) (some e7)))])) (fun x => rec (S_cert_Read_10 x)) x := by kernel_rfl
theorem ok_cert_Read_10 : LoopOk env_cert_Read lp_cert_Read inl0 c_cert_Read_10 := by
  refine loopOk_of (hd := [(4, false), (5, false), (6, false), (7, false), (8, false)]) (out := out_cert_Read_10) (S := S_cert_Read_10) (fun _ K => B_cert_Read_10 (fun e4 e5 e6 e7 => K (.exit 2) (St.ofList [(4, (.v (.ptr 96 (.pair (.sl 5 (.int .u8)) (.pair (.int .i64) .unit))) (.o .s) (some e4))), (5, (.v (.sl 89 (.pair (.sl 86 (.sl 85 Ty0)) .unit)) (.o .s) e5)), (6, (.v (.int .i64) .s e6)), (7, (.v (.ptr 89 (.pair (.sl 86 (.sl 85 Ty0)) .unit)) (.o (.p (.o .s) .s)) (some e7)))]))) fuel_cert_Read_10 10 step_cert_Read_10 (by kernel_rfl) (fun R K => fun st => mP 96 (.pair (.sl 5 (.int .u8)) (.pair (.int .i64) .unit)) (.o .s) (st 4) fun y4 => mV (.sl 89 (.pair (.sl 86 (.sl 85 Ty0)) .unit)) (.o .s) (st 5) fun y5 => mV (.int .i64) .s (st 6) fun y6 => mP 89 (.pair (.sl 86 (.sl 85 Ty0)) .unit) (.o (.p (.o .s) .s)) (st 7) fun y7 => mV (.int .i64) .s (st 8) fun y8 => loopN (B_cert_Read_10 (fun e4 e5 e6 e7 => K (.exit 2) (St.ofList [(4, (.v (.ptr 96 (.pair (.sl 5 (.int .u8)) (.pair (.int .i64) .unit))) (.o .s) (some e4))), (5, (.v (.sl 89 (.pair (.sl 86 (.sl 85 Ty0)) .unit)) (.o .s) e5)), (6, (.v (.int .i64) .s e6)), (7, (.v (.ptr 89 (.pair (.sl 86 (.sl 85 Ty0)) .unit)) (.o (.p (.o .s) .s)) (some e7)))]))) (fuel_cert_Read_10 ⟨y4, y5, y6, y7, y8⟩) ⟨y4, y5, y6, y7, y8⟩) (fun R st K => by kernel_rfl) ?_
  intro R K st r h
  obtain ⟨y4, hy4, h⟩ := mP_inv h
  obtain ⟨y5, hy5, h⟩ := mV_inv h
  obtain ⟨y6, hy6, h⟩ := mV_inv h
  obtain ⟨y7, hy7, h⟩ := mP_inv h
  obtain ⟨y8, hy8, h⟩ := mV_inv h
  exact ⟨⟨y4, y5, y6, y7, y8⟩, only_of_list (ofList_cons hy4 (ofList_cons hy5 (ofList_cons hy6 (ofList_cons hy7 (ofList_cons hy8 rfl))))), h⟩
theorem step_cert_Read_6 (R : Type) (K : Ex → St → Option R) (rec : St → Option R) (x : X_cert_Read_6) : evC env_cert_Read lp_cert_Read inl0 c_cert_Read_6 (S_cert_Read_6 x) (fun e st => match e with | .normal => coerce [(4, false), (5, false), (6, false)] st rec | e => coerce (out_cert_Read_6 e) st (K e)) = B_cert_Read_6 (fun e4 e5 => K (.exit 0) (St.ofList [(4, (.v (.ptr 96 (.pair (.sl 5 (.int .u8)) (.pair (.int .i64) .unit))) (.o .s) (some e4))), (5, (.v (.sl 89 (.pair (.sl 86 (.sl 85 Ty0)) .unit)) (.o .s) e5))])) (fun x => rec (S_cert_Read_6 x)) x := by kernel_rfl
theorem ok_cert_Read_6 : LoopOk env_cert_Read lp_cert_Read inl0 c_cert_Read_6 := by
  refine loopOk_of (hd := [(4, false), (5, false), (6, false)]) (out := out_cert_Read_6) (S := S_cert_Read_6) (fun _ K => B_cert_Read_6 (fun e4 e5 => K (.exit 0) (St.ofList [(4, (.v (.ptr 96 (.pair (.sl 5 (.int .u8)) (.pair (.int .i64) .unit))) (.o .s) (some e4))), (5, (.v (.sl 89 (.pair (.sl 86 (.sl 85 Ty0)) .unit)) (.o .s) e5))]))) fuel_cert_Read_6 6 step_cert_Read_6 (by kernel_rfl) (fun R K => fun st => mP 96 (.pair (.sl 5 (.int .u8)) (.pair (.int .i64) .unit)) (.o .s) (st 4) fun y4 => mV (.sl 89 (.pair (.sl 86 (.sl 85 Ty0)) .unit)) (.o .s) (st 5) fun y5 => mV (.int .i64) .s (st 6) fun y6 => loopN (B_cert_Read_6 (fun e4 e5 => K (.exit 0) (St.ofList [(4, (.v (.ptr 96 (.pair (.sl 5 (.int .u8)) (.pair (.int .i64) .unit))) (.o .s) (some e4))), (5, (.v (.sl 89 (.pair (.sl 86 (.sl 85 Ty0)) .unit)) (.o .s) e5))]))) (fuel_cert_Read_6 ⟨y4, y5, y6⟩) ⟨y4, y5, y6⟩) (fun R st K => by kernel_rfl) ?_
  intro R K st r h
  obtain ⟨y4, hy4, h⟩ := mP_inv h
  obtain ⟨y5, hy5, h⟩ := mV_inv h
  obtain ⟨y6, hy6, h⟩ := mV_inv h
  exact ⟨⟨y4, y5, y6⟩, only_of_list (ofList_cons hy4 (ofList_cons hy5 (ofList_cons hy6 rfl))), h⟩
theorem loops_cert_Read : LoopsOk env_cert_Read lp_cert_Read inl0 (body Try.f19.body) := by
  refine loopsOk_of (fun c hc => ?_) (fun c hc => ?_)
  · rw [show loopsL (body Try.f19.body) = [c_cert_Read_6, c_cert_Read_10, c_cert_Read_14] by kernel_rfl] at hc
    simp only [List.mem_cons, List.not_mem_nil, or_false] at hc
    rcases hc with rfl | rfl | rfl
    · exact ok_cert_Read_6
    · exact ok_cert_Read_10
    · exact ok_cert_Read_14
  · rw [show joinsL env_cert_Read (body Try.f19.body) = [] by kernel_rfl] at hc; cases hc
noncomputable def p_cert_Read {R : Type} (a0 : List (Int)) (K : (List (It1)) → Int → Option R) : Option R :=
  let v1 := ((List.length a0 : Nat) : Int)
  let v2 := decide (v1 > (65536 : Int))
  cond v2
  (K ([] : List (It1)) (4 : Int))
  (p_cert_reader_count (a0, ((0 : Int), ())) (64 : Int) fun r3 b4 =>
  loopN (B_cert_Read_6 (fun w5 w6 =>
  let v7 := w5.2.1 == (0 : Int)
  cond v7
  (let v8 := ((List.length w5.1 : Nat) : Int)
  let v9 := decide (v8 > (0 : Int))
  cond v9
  (let v10 := (2 : Int) != (0 : Int)
  cond v10
  (K ([] : List (It1)) (2 : Int))
  (K w6 (0 : Int)))
  (let v11 := w5.2.1 != (0 : Int)
  cond v11
  (K ([] : List (It1)) w5.2.1)
  (K w6 (0 : Int))))
  (let v12 := w5.2.1 != (0 : Int)
  cond v12
  (K ([] : List (It1)) w5.2.1)
  (K w6 (0 : Int))))) (fuel_cert_Read_6 ⟨b4, ([] : List (It1)), r3⟩) ⟨b4, ([] : List (It1)), r3⟩)
noncomputable def cs_cert_Read : CSpec := { ins := [(.val (.sl 5 (.int .u8)) .s)], outs := [((.sl 89 (.pair (.sl 86 (.sl 85 Ty0)) .unit)), (.o .s)), ((.int .i64), .s)], fn := fun (d : (List (Int)) × Unit) K _ => p_cert_Read d.1 (fun r0 r1 => K ((r0, r1, ()) : (List (It1)) × Int × Unit) ((()) : Unit)) }
theorem h_cert_Read : Holds Try.prog 19 cs_cert_Read := by
  refine holds_of (env := env_cert_Read) (inl := inl0) (fn := Try.f19) (code := body Try.f19.body) (rs := [(2, none), (3, none)]) (lp := lp_cert_Read) mixed ⟨envTyOk.ty, envTyOk.eq⟩ gamOk_cert_Read inl0_ok Try.func19 (by kernel_rfl) (by kernel_rfl) (by kernel_rfl) (by kernel_rfl) (by kernel_rfl) loops_cert_Read (by kernel_rfl) ?_
  intro d R K Kp res h
  have : evC env_cert_Read lp_cert_Read inl0 (body Try.f19.body) (St.start cs_cert_Read.ins d) (retK env_cert_Read cs_cert_Read.ins cs_cert_Read.outs [(2, none), (3, none)] cs_cert_Read.pan K Kp) = cs_cert_Read.fn d K Kp := by kernel_rfl
  rw [this]; exact h
-- f18 trammel/trammelref01.Same
noncomputable def env_ref01_Same : Env := { ty := envTy, eq := envEq, gam := noG, n := Try.f18.ntmps }
structure X_ref01_Same_4 where
  f0 : List (Int)
  f1 : List (Int)
  f5 : Int

noncomputable def B_ref01_Same_4 {R : Type} (k_ret : Bool → Option R) (k_exit_0 : Option R) (rec : X_ref01_Same_4 → Option R) (x : X_ref01_Same_4) : Option R :=
  let v1 := ((List.length x.f0 : Nat) : Int)
  let v2 := decide (x.f5 < v1)
  cond v2
  (cond (inB x.f5 (List.length x.f0))
  (let v3 := List.getD x.f0 x.f5.toNat (0 : Int)
  cond (inB x.f5 (List.length x.f1))
  (let v4 := List.getD x.f1 x.f5.toNat (0 : Int)
  let v5 := v3 != v4
  cond v5
  (k_ret false)
  (let v6 := IntKind.i64.wrap (x.f5 + (1 : Int))
  rec ⟨x.f0, x.f1, v6⟩)) none) none)
  (k_exit_0)
noncomputable def S_ref01_Same_4 (x : X_ref01_Same_4) : St := St.ofList [(0, (.v (.sl 5 (.int .u8)) .s x.f0)), (1, (.v (.sl 5 (.int .u8)) .s x.f1)), (5, (.v (.int .i64) .s x.f5))]
def out_ref01_Same_4 : Ex → List (Nat × Bool) | .ret => [(4, false)] | .exit 0 => [] | _ => []
noncomputable def fuel_ref01_Same_4 (x : X_ref01_Same_4) : Nat := fuel64
noncomputable def c_ref01_Same_4 : Code := match loopAt 4 (body Try.f18.body) with | some c => c | none => .skip
noncomputable def lp_ref01_Same : Loops := fun z i R st K => match z, i with
  | false, 4 => coerce [(0, false), (1, false), (5, false)] st (fun st => mV (.sl 5 (.int .u8)) .s (st 0) fun y0 => mV (.sl 5 (.int .u8)) .s (st 1) fun y1 => mV (.int .i64) .s (st 5) fun y5 => loopN (B_ref01_Same_4 (fun e4 => K .ret (St.ofList [(4, (.v .bool .s e4))])) (K (.exit 0) (St.ofList []))) (fuel_ref01_Same_4 ⟨y0, y1, y5⟩) ⟨y0, y1, y5⟩)
  | _, _ => none
theorem step_ref01_Same_4 (R : Type) (K : Ex → St → Option R) (rec : St → Option R) (x : X_ref01_Same_4) : evC env_ref01_Same lp_ref01_Same inl0 c_ref01_Same_4 (S_ref01_Same_4 x) (fun e st => match e with | .normal => coerce [(0, false), (1, false), (5, false)] st rec | e => coerce (out_ref01_Same_4 e) st (K e)) = B_ref01_Same_4 (fun e4 => K .ret (St.ofList [(4, (.v .bool .s e4))])) (K (.exit 0) (St.ofList [])) (fun x => rec (S_ref01_Same_4 x)) x := by kernel_rfl
theorem ok_ref01_Same_4 : LoopOk env_ref01_Same lp_ref01_Same inl0 c_ref01_Same_4 := by
  refine loopOk_of (hd := [(0, false), (1, false), (5, false)]) (out := out_ref01_Same_4) (S := S_ref01_Same_4) (fun _ K => B_ref01_Same_4 (fun e4 => K .ret (St.ofList [(4, (.v .bool .s e4))])) (K (.exit 0) (St.ofList []))) fuel_ref01_Same_4 4 step_ref01_Same_4 (by kernel_rfl) (fun R K => fun st => mV (.sl 5 (.int .u8)) .s (st 0) fun y0 => mV (.sl 5 (.int .u8)) .s (st 1) fun y1 => mV (.int .i64) .s (st 5) fun y5 => loopN (B_ref01_Same_4 (fun e4 => K .ret (St.ofList [(4, (.v .bool .s e4))])) (K (.exit 0) (St.ofList []))) (fuel_ref01_Same_4 ⟨y0, y1, y5⟩) ⟨y0, y1, y5⟩) (fun R st K => by kernel_rfl) ?_
  intro R K st r h
  obtain ⟨y0, hy0, h⟩ := mV_inv h
  obtain ⟨y1, hy1, h⟩ := mV_inv h
  obtain ⟨y5, hy5, h⟩ := mV_inv h
  exact ⟨⟨y0, y1, y5⟩, only_of_list (ofList_cons hy0 (ofList_cons hy1 (ofList_cons hy5 rfl))), h⟩
theorem loops_ref01_Same : LoopsOk env_ref01_Same lp_ref01_Same inl0 (body Try.f18.body) := by
  refine loopsOk_of (fun c hc => ?_) (fun c hc => ?_)
  · rw [show loopsL (body Try.f18.body) = [c_ref01_Same_4] by kernel_rfl] at hc
    simp only [List.mem_cons, List.not_mem_nil, or_false] at hc
    rcases hc with rfl
    · exact ok_ref01_Same_4
  · rw [show joinsL env_ref01_Same (body Try.f18.body) = [] by kernel_rfl] at hc; cases hc
noncomputable def p_ref01_Same {R : Type} (a0 : List (Int)) (a1 : List (Int)) (K : Bool → Option R) : Option R :=
  let v1 := ((List.length a0 : Nat) : Int)
  let v2 := ((List.length a1 : Nat) : Int)
  let v3 := v1 != v2
  cond v3
  (K false)
  (loopN (B_ref01_Same_4 (fun w4 =>
  K w4) (K true)) (fuel_ref01_Same_4 ⟨a0, a1, (0 : Int)⟩) ⟨a0, a1, (0 : Int)⟩)
noncomputable def cs_ref01_Same : CSpec := { ins := [(.val (.sl 5 (.int .u8)) .s), (.val (.sl 5 (.int .u8)) .s)], outs := [(.bool, .s)], fn := fun (d : (List (Int)) × (List (Int)) × Unit) K _ => p_ref01_Same d.1 d.2.1 (fun r0 => K ((r0, ()) : Bool × Unit) ((()) : Unit)) }
theorem h_ref01_Same : Holds Try.prog 18 cs_ref01_Same := by
  refine holds_of (env := env_ref01_Same) (inl := inl0) (fn := Try.f18) (code := body Try.f18.body) (rs := [(4, none)]) (lp := lp_ref01_Same) mixed ⟨envTyOk.ty, envTyOk.eq⟩ (fun _ _ _ h => by cases h) inl0_ok Try.func18 (by kernel_rfl) (by kernel_rfl) (by kernel_rfl) (by kernel_rfl) (by kernel_rfl) loops_ref01_Same (by kernel_rfl) ?_
  intro d R K Kp res h
  have : evC env_ref01_Same lp_ref01_Same inl0 (body Try.f18.body) (St.start cs_ref01_Same.ins d) (retK env_ref01_Same cs_ref01_Same.ins cs_ref01_Same.outs [(4, none)] cs_ref01_Same.pan K Kp) = cs_ref01_Same.fn d K Kp := by kernel_rfl
  rw [this]; exact h
-- f14 trammel/trammellaw21.awake
noncomputable def gam_law21_awake : FuncId → List FuncId → Option CSpec
  | 16, [] => some cs_cert_Put
  | 19, [] => some cs_cert_Read
  | 18, [] => some cs_ref01_Same
  | _, _ => none
noncomputable def env_law21_awake : Env := { ty := envTy, eq := envEq, gam := gam_law21_awake, n := Try.f14.ntmps }
theorem gamOk_law21_awake : EnvFn Try.prog env_law21_awake := by
  intro f gs c h
  unfold env_law21_awake gam_law21_awake at h
  simp only at h
  split at h <;> first | (cases h; done) | (cases h; exact h_cert_Put) | (cases h; exact h_cert_Read) | (cases h; exact h_ref01_Same)
noncomputable def p_law21_awake {R : Type}  (K : Bool → Option R) : Option R :=
  let v1 := List.set (List.replicate 1 (((0 : Int), ((0 : Int), ())), (((0 : Int), ((0 : Int), ())), ()))) 0 (((0 : Int), ((255 : Int), ())), (((0 : Int), ((0 : Int), ())), ()))
  let v2 := List.set (List.replicate 1 ([] : List (((Int) × (Int) × Unit) × ((Int) × (Int) × Unit) × Unit))) 0 v1
  let v3 := List.set (List.replicate 1 (([] : List (List (((Int) × (Int) × Unit) × ((Int) × (Int) × Unit) × Unit))), ())) 0 (v2, ())
  p_cert_Put v3 fun r4 r5 =>
  let v6 := List.set (List.set (List.set (List.set (List.set (List.set (List.set (List.set (List.replicate 8 (0 : Int)) 0 (1 : Int)) 1 (1 : Int)) 2 (1 : Int)) 3 (0 : Int)) 4 (255 : Int)) 5 (1 : Int)) 6 (0 : Int)) 7 (0 : Int)
  p_cert_Read v6 fun r7 r8 =>
  let v9 := r5 == (0 : Int)
  cond v9
  (let v10 := List.set (List.set (List.set (List.set (List.set (List.set (List.set (List.set (List.replicate 8 (0 : Int)) 0 (1 : Int)) 1 (1 : Int)) 2 (1 : Int)) 3 (0 : Int)) 4 (255 : Int)) 5 (1 : Int)) 6 (0 : Int)) 7 (0 : Int)
  p_ref01_Same r4 v10 fun r11 =>
  cond r11
  (let v12 := r8 == (0 : Int)
  cond v12
  (let v13 := ((List.length r7 : Nat) : Int)
  let v14 := v13 == (1 : Int)
  cond v14
  (cond (inB (0 : Int) (List.length r7))
  (let v15 := (List.getD r7 (0 : Int).toNat (([] : List (List (((Int) × (Int) × Unit) × ((Int) × (Int) × Unit) × Unit))), ())).1
  cond (inB (0 : Int) (List.length v15))
  (let v16 := List.getD v15 (0 : Int).toNat ([] : List (((Int) × (Int) × Unit) × ((Int) × (Int) × Unit) × Unit))
  cond (inB (0 : Int) (List.length v16))
  (let v17 := List.getD v16 (0 : Int).toNat (((0 : Int), ((0 : Int), ())), (((0 : Int), ((0 : Int), ())), ()))
  let v18 := v17.1.2.1 == (255 : Int)
  K v18) none) none) none)
  (K false))
  (K false))
  (K false))
  (K false)
noncomputable def cs_law21_awake : CSpec := { ins := [], outs := [(.bool, .s)], fn := fun (d : Unit) K _ => p_law21_awake  (fun r0 => K ((r0, ()) : Bool × Unit) ((()) : Unit)) }
theorem h_law21_awake : Holds Try.prog 14 cs_law21_awake := by
  refine holds_of (env := env_law21_awake) (inl := inl0) (fn := Try.f14) (code := body Try.f14.body) (rs := [(0, none)]) (lp := lp0) mixed ⟨envTyOk.ty, envTyOk.eq⟩ gamOk_law21_awake inl0_ok Try.func14 (by kernel_rfl) (by kernel_rfl) (by kernel_rfl) (by kernel_rfl) (by kernel_rfl) (loopsOk_none (by kernel_rfl) (by kernel_rfl)) (by kernel_rfl) ?_
  intro d R K Kp res h
  have : evC env_law21_awake lp0 inl0 (body Try.f14.body) (St.start cs_law21_awake.ins d) (retK env_law21_awake cs_law21_awake.ins cs_law21_awake.outs [(0, none)] cs_law21_awake.pan K Kp) = cs_law21_awake.fn d K Kp := by kernel_rfl
  rw [this]; exact h
-- f48 trammel/trammelref08.more
noncomputable def env_ref08_more : Env := { ty := envTy, eq := envEq, gam := noG, n := Try.f48.ntmps }
noncomputable def p_ref08_more {R : Type} (a0 : Int) (a1 : Int) (K : Int → Option R) : Option R :=
  let v1 := decide (a0 < (0 : Int))
  cond v1
  (K (-1 : Int))
  (let v2 := decide (a1 > (3000 : Int))
  cond v2
  (K (-1 : Int))
  (let v3 := IntKind.i64.wrap (a0 + a1)
  let v4 := decide (v3 > (3000 : Int))
  cond v4
  (K (-1 : Int))
  (let v5 := IntKind.i64.wrap (a0 + a1)
  K v5)))
noncomputable def cs_ref08_more : CSpec := { ins := [(.val (.int .i64) .s), (.val (.int .i64) .s)], outs := [((.int .i64), .s)], fn := fun (d : Int × Int × Unit) K _ => p_ref08_more d.1 d.2.1 (fun r0 => K ((r0, ()) : Int × Unit) ((()) : Unit)) }
theorem h_ref08_more : Holds Try.prog 48 cs_ref08_more := by
  refine holds_of (env := env_ref08_more) (inl := inl0) (fn := Try.f48) (code := body Try.f48.body) (rs := [(4, none)]) (lp := lp0) mixed ⟨envTyOk.ty, envTyOk.eq⟩ (fun _ _ _ h => by cases h) inl0_ok Try.func48 (by kernel_rfl) (by kernel_rfl) (by kernel_rfl) (by kernel_rfl) (by kernel_rfl) (loopsOk_none (by kernel_rfl) (by kernel_rfl)) (by kernel_rfl) ?_
  intro d R K Kp res h
  have : evC env_ref08_more lp0 inl0 (body Try.f48.body) (St.start cs_ref08_more.ins d) (retK env_ref08_more cs_ref08_more.ins cs_ref08_more.outs [(4, none)] cs_ref08_more.pan K Kp) = cs_ref08_more.fn d K Kp := by kernel_rfl
  rw [this]; exact h
-- f49 trammel/trammelref08.bodySize
noncomputable def gam_ref08_bodySize : FuncId → List FuncId → Option CSpec
  | 48, [] => some cs_ref08_more
  | _, _ => none
noncomputable def env_ref08_bodySize : Env := { ty := envTy, eq := envEq, gam := gam_ref08_bodySize, n := Try.f49.ntmps }
theorem gamOk_ref08_bodySize : EnvFn Try.prog env_ref08_bodySize := by
  intro f gs c h
  unfold env_ref08_bodySize gam_ref08_bodySize at h
  simp only at h
  split at h <;> first | (cases h; done) | (cases h; exact h_ref08_more)
structure X_ref08_bodySize_3 where
  f0 : Int
  f1 : List ((Int) × (Int) × (Int) × (Int) × (List (Int)) × Unit)
  f5 : Int

noncomputable def B_ref08_bodySize_3 {R : Type} (k_exit_0 : Int → Option R) (rec : X_ref08_bodySize_3 → Option R) (x : X_ref08_bodySize_3) : Option R :=
  let v1 := ((List.length x.f1 : Nat) : Int)
  let v2 := decide (x.f5 < v1)
  cond v2
  (let v3 := decide (x.f0 ≥ (0 : Int))
  cond v3
  (cond (inB x.f5 (List.length x.f1))
  (let v4 := List.getD x.f1 x.f5.toNat ((0 : Int), ((0 : Int), ((0 : Int), ((0 : Int), (([] : List (Int)), ())))))
  let v5 := ((List.length v4.2.2.2.2.1 : Nat) : Int)
  p_ref08_more x.f0 v5 fun r6 =>
  let v7 := IntKind.i64.wrap (x.f5 + (1 : Int))
  rec ⟨r6, x.f1, v7⟩) none)
  (k_exit_0 x.f0))
  (k_exit_0 x.f0)
noncomputable def S_ref08_bodySize_3 (x : X_ref08_bodySize_3) : St := St.ofList [(0, (.v (.int .i64) .s x.f0)), (1, (.v (.sl 170 (.pair (.int .i64) (.pair (.int .i64) Ty2))) .s x.f1)), (5, (.v (.int .i64) .s x.f5))]
def out_ref08_bodySize_3 : Ex → List (Nat × Bool) | .exit 0 => [(0, false)] | _ => []
noncomputable def fuel_ref08_bodySize_3 (x : X_ref08_bodySize_3) : Nat := fuel64
noncomputable def c_ref08_bodySize_3 : Code := match loopAt 3 (body Try.f49.body) with | some c => c | none => .skip
noncomputable def lp_ref08_bodySize : Loops := fun z i R st K => match z, i with
  | false, 3 => coerce [(0, false), (1, false), (5, false)] st (fun st => mV (.int .i64) .s (st 0) fun y0 => mV (.sl 170 (.pair (.int .i64) (.pair (.int .i64) Ty2))) .s (st 1) fun y1 => mV (.int .i64) .s (st 5) fun y5 => loopN (B_ref08_bodySize_3 (fun e0 => K (.exit 0) (St.ofList [(0, (.v (.int .i64) .s e0))]))) (fuel_ref08_bodySize_3 ⟨y0, y1, y5⟩) ⟨y0, y1, y5⟩)
  | _, _ => none
theorem step_ref08_bodySize_3 (R : Type) (K : Ex → St → Option R) (rec : St → Option R) (x : X_ref08_bodySize_3) : evC env_ref08_bodySize lp_ref08_bodySize inl0 c_ref08_bodySize_3 (S_ref08_bodySize_3 x) (fun e st => match e with | .normal => coerce [(0, false), (1, false), (5, false)] st rec | e => coerce (out_ref08_bodySize_3 e) st (K e)) = B_ref08_bodySize_3 (fun e0 => K (.exit 0) (St.ofList [(0, (.v (.int .i64) .s e0))])) (fun x => rec (S_ref08_bodySize_3 x)) x := by kernel_rfl
theorem ok_ref08_bodySize_3 : LoopOk env_ref08_bodySize lp_ref08_bodySize inl0 c_ref08_bodySize_3 := by
  refine loopOk_of (hd := [(0, false), (1, false), (5, false)]) (out := out_ref08_bodySize_3) (S := S_ref08_bodySize_3) (fun _ K => B_ref08_bodySize_3 (fun e0 => K (.exit 0) (St.ofList [(0, (.v (.int .i64) .s e0))]))) fuel_ref08_bodySize_3 3 step_ref08_bodySize_3 (by kernel_rfl) (fun R K => fun st => mV (.int .i64) .s (st 0) fun y0 => mV (.sl 170 (.pair (.int .i64) (.pair (.int .i64) Ty2))) .s (st 1) fun y1 => mV (.int .i64) .s (st 5) fun y5 => loopN (B_ref08_bodySize_3 (fun e0 => K (.exit 0) (St.ofList [(0, (.v (.int .i64) .s e0))]))) (fuel_ref08_bodySize_3 ⟨y0, y1, y5⟩) ⟨y0, y1, y5⟩) (fun R st K => by kernel_rfl) ?_
  intro R K st r h
  obtain ⟨y0, hy0, h⟩ := mV_inv h
  obtain ⟨y1, hy1, h⟩ := mV_inv h
  obtain ⟨y5, hy5, h⟩ := mV_inv h
  exact ⟨⟨y0, y1, y5⟩, only_of_list (ofList_cons hy0 (ofList_cons hy1 (ofList_cons hy5 rfl))), h⟩
theorem loops_ref08_bodySize : LoopsOk env_ref08_bodySize lp_ref08_bodySize inl0 (body Try.f49.body) := by
  refine loopsOk_of (fun c hc => ?_) (fun c hc => ?_)
  · rw [show loopsL (body Try.f49.body) = [c_ref08_bodySize_3] by kernel_rfl] at hc
    simp only [List.mem_cons, List.not_mem_nil, or_false] at hc
    rcases hc with rfl
    · exact ok_ref08_bodySize_3
  · rw [show joinsL env_ref08_bodySize (body Try.f49.body) = [] by kernel_rfl] at hc; cases hc
noncomputable def p_ref08_bodySize {R : Type} (a0 : Int) (a1 : List ((Int) × (Int) × (Int) × (Int) × (List (Int)) × Unit)) (K : Int → Option R) : Option R :=
  let v1 := ((List.length a1 : Nat) : Int)
  p_ref08_more a0 v1 fun r2 =>
  loopN (B_ref08_bodySize_3 (fun w3 =>
  K w3)) (fuel_ref08_bodySize_3 ⟨r2, a1, (0 : Int)⟩) ⟨r2, a1, (0 : Int)⟩
noncomputable def cs_ref08_bodySize : CSpec := { ins := [(.val (.int .i64) .s), (.val (.sl 170 (.pair (.int .i64) (.pair (.int .i64) Ty2))) .s)], outs := [((.int .i64), .s)], fn := fun (d : Int × (List ((Int) × (Int) × (Int) × (Int) × (List (Int)) × Unit)) × Unit) K _ => p_ref08_bodySize d.1 d.2.1 (fun r0 => K ((r0, ()) : Int × Unit) ((()) : Unit)) }
theorem h_ref08_bodySize : Holds Try.prog 49 cs_ref08_bodySize := by
  refine holds_of (env := env_ref08_bodySize) (inl := inl0) (fn := Try.f49) (code := body Try.f49.body) (rs := [(4, none)]) (lp := lp_ref08_bodySize) mixed ⟨envTyOk.ty, envTyOk.eq⟩ gamOk_ref08_bodySize inl0_ok Try.func49 (by kernel_rfl) (by kernel_rfl) (by kernel_rfl) (by kernel_rfl) (by kernel_rfl) loops_ref08_bodySize (by kernel_rfl) ?_
  intro d R K Kp res h
  have : evC env_ref08_bodySize lp_ref08_bodySize inl0 (body Try.f49.body) (St.start cs_ref08_bodySize.ins d) (retK env_ref08_bodySize cs_ref08_bodySize.ins cs_ref08_bodySize.outs [(4, none)] cs_ref08_bodySize.pan K Kp) = cs_ref08_bodySize.fn d K Kp := by kernel_rfl
  rw [this]; exact h
-- f26 trammel/trammelref08.Short
noncomputable def gam_ref08_Short : FuncId → List FuncId → Option CSpec
  | 48, [] => some cs_ref08_more
  | 49, [] => some cs_ref08_bodySize
  | _, _ => none
noncomputable def fs_ref08_Short : Nat → Bool
  | 7 => true
  | 9 => true
  | 11 => true
  | 13 => true
  | 15 => true
  | 17 => true
  | 19 => true
  | 21 => true
  | _ => false
noncomputable def lv_ref08_Short : Nat → Option (List Nat)
  | 0 => some [0]
  | 1 => some [1]
  | 2 => some [1, 58, 59, 60]
  | 3 => some [1, 58, 59, 60]
  | 4 => some [1, 4, 58, 59, 60]
  | 5 => some []
  | 6 => some [1, 58, 59, 60]
  | 7 => some [1]
  | 8 => some [1, 5]
  | 9 => some [1, 5, 68, 69, 70]
  | 10 => some [1, 5, 68, 69, 70]
  | 11 => some [1, 5, 7, 68, 69, 70]
  | 12 => some [1, 5, 68, 69, 70]
  | 13 => some [1, 5]
  | 14 => some [1, 5, 85, 86, 87]
  | 15 => some [1, 5, 85, 86, 87]
  | 16 => some [1, 5, 9, 85, 86, 87]
  | 17 => some [1, 5, 85, 86, 87]
  | 18 => some [1, 5]
  | 19 => some [1, 5, 102, 103, 104]
  | 20 => some [1, 5, 102, 103, 104]
  | 21 => some [1, 5, 11, 102, 103, 104]
  | 22 => some [1, 5, 102, 103, 104]
  | 23 => some [1, 5]
  | 24 => some [1, 5, 118, 119, 120]
  | 25 => some [1, 5, 118, 119, 120]
  | 26 => some [1, 5, 13, 118, 119, 120]
  | 27 => some [1, 5, 118, 119, 120]
  | 28 => some [1, 5]
  | 29 => some [1, 5, 130, 131, 132]
  | 30 => some [1, 5, 130, 131, 132]
  | 31 => some [1, 5, 15, 130, 131, 132]
  | 32 => some [1, 5, 130, 131, 132]
  | 33 => some [1, 5]
  | 34 => some [1, 5, 143, 144, 145]
  | 35 => some [1, 5, 143, 144, 145]
  | 36 => some [1, 5, 17, 143, 144, 145]
  | 37 => some [1, 5, 143, 144, 145]
  | 38 => some [1, 5]
  | 39 => some [1, 5, 159, 160, 161]
  | 40 => some [1, 5, 159, 160, 161]
  | 41 => some [1, 5, 19, 159, 160, 161]
  | 42 => some [1, 5, 159, 160, 161]
  | 43 => some [1, 5]
  | 44 => some [5, 175, 176, 177]
  | 45 => some [5, 175, 176, 177]
  | 46 => some [5, 21, 175, 176, 177]
  | 47 => some [5, 175, 176, 177]
  | 48 => some [5]
  | _ => none
noncomputable def env_ref08_Short : Env := { ty := envTy, eq := envEq, gam := gam_ref08_Short, n := Try.f26.ntmps, fs := fs_ref08_Short, lv := lv_ref08_Short }
theorem gamOk_ref08_Short : EnvFn Try.prog env_ref08_Short := by
  intro f gs c h
  unfold env_ref08_Short gam_ref08_Short at h
  simp only at h
  split at h <;> first | (cases h; done) | (cases h; exact h_ref08_more) | (cases h; exact h_ref08_bodySize)
structure X_ref08_Short_2 where
  f1 : It10
  f58 : List (Int)
  f59 : Int
  f60 : Int

noncomputable def B_ref08_Short_2 {R : Type} (k_ret : Bool → Option R) (k_exit_0 : It10 → Option R) (rec : X_ref08_Short_2 → Option R) (x : X_ref08_Short_2) : Option R :=
  let v1 := decide (x.f60 < x.f59)
  cond v1
  (cond (inB x.f60 (List.length x.f58))
  (let v2 := (List.getD x.f58 x.f60.toNat (0 : Int))
  let v3 := decide (v2 > (70 : Int))
  cond v3
  (k_ret false)
  (let v4 := IntKind.i64.wrap (x.f60 + (1 : Int))
  rec ⟨x.f1, x.f58, x.f59, v4⟩)) none)
  (k_exit_0 x.f1)
noncomputable def S_ref08_Short_2 (x : X_ref08_Short_2) : St := St.ofList [(1, (.v (.ptr 62 (.pair Ty11 Ty23)) (.o .s) (some x.f1))), (58, (.v (.sl 3 (.int .i64)) (.o .s) x.f58)), (59, (.v (.int .i64) .s x.f59)), (60, (.v (.int .i64) .s x.f60))]
def out_ref08_Short_2 : Ex → List (Nat × Bool) | .ret => [(2, false)] | .exit 0 => [(1, false)] | _ => []
noncomputable def fuel_ref08_Short_2 (x : X_ref08_Short_2) : Nat := fuel64
noncomputable def c_ref08_Short_2 : Code := match loopAt 2 (body Try.f26.body) with | some c => c | none => .skip
structure X_ref08_Short_9 where
  f1 : It10
  f5 : Int
  f68 : List ((List (Int)) × (List (Int)) × Unit)
  f69 : Int
  f70 : Int

noncomputable def B_ref08_Short_9 {R : Type} (k_exit_2 : It10 → Int → Option R) (rec : X_ref08_Short_9 → Option R) (x : X_ref08_Short_9) : Option R :=
  let v1 := decide (x.f70 < x.f69)
  cond v1
  (cond (inB x.f70 (List.length x.f68))
  (let v2 := List.getD x.f68 x.f70.toNat (([] : List (Int)), (([] : List (Int)), ()))
  let v3 := ((List.length v2.1 : Nat) : Int)
  let v4 := ((List.length v2.2.1 : Nat) : Int)
  p_ref08_more x.f5 v3 fun r5 =>
  p_ref08_more r5 v4 fun r6 =>
  let v7 := IntKind.i64.wrap (x.f70 + (1 : Int))
  rec ⟨x.f1, r6, x.f68, x.f69, v7⟩) none)
  (k_exit_2 x.f1 x.f5)
noncomputable def S_ref08_Short_9 (x : X_ref08_Short_9) : St := St.ofList [(1, (.v (.ptr 62 (.pair Ty11 Ty23)) (.o .s) (some x.f1))), (5, (.v (.int .i64) .s x.f5)), (68, (.v Ty11 .s x.f68)), (69, (.v (.int .i64) .s x.f69)), (70, (.v (.int .i64) .s x.f70))]
def out_ref08_Short_9 : Ex → List (Nat × Bool) | .exit 2 => [(1, false), (5, false)] | _ => []
noncomputable def fuel_ref08_Short_9 (x : X_ref08_Short_9) : Nat := fuel64
noncomputable def c_ref08_Short_9 : Code := match loopAt 9 (body Try.f26.body) with | some c => c | none => .skip
structure X_ref08_Short_14 where
  f1 : It10
  f5 : Int
  f85 : List ((List UInt8) × It3)
  f86 : Int
  f87 : Int

noncomputable def B_ref08_Short_14 {R : Type} (k_exit_4 : It10 → Int → Option R) (rec : X_ref08_Short_14 → Option R) (x : X_ref08_Short_14) : Option R :=
  let v1 := decide (x.f87 < x.f86)
  cond v1
  (cond (inB x.f87 (List.length x.f85))
  (let v2 := List.getD x.f85 x.f87.toNat (([] : List UInt8), (([] : List UInt8), ((0 : Int), ((0 : Int), (((0 : Int), (false, ((0 : Int), ()))), (false, ()))))))
  let v3 := ((List.length v2.1 : Nat) : Int)
  let v4 := ((List.length v2.2.1 : Nat) : Int)
  p_ref08_more x.f5 v3 fun r5 =>
  p_ref08_more r5 v4 fun r6 =>
  let v7 := IntKind.i64.wrap (x.f87 + (1 : Int))
  rec ⟨x.f1, r6, x.f85, x.f86, v7⟩) none)
  (k_exit_4 x.f1 x.f5)
noncomputable def S_ref08_Short_14 (x : X_ref08_Short_14) : St := St.ofList [(1, (.v (.ptr 62 (.pair Ty11 Ty23)) (.o .s) (some x.f1))), (5, (.v (.int .i64) .s x.f5)), (85, (.v (.sl 117 Ty13) .s x.f85)), (86, (.v (.int .i64) .s x.f86)), (87, (.v (.int .i64) .s x.f87))]
def out_ref08_Short_14 : Ex → List (Nat × Bool) | .exit 4 => [(1, false), (5, false)] | _ => []
noncomputable def fuel_ref08_Short_14 (x : X_ref08_Short_14) : Nat := fuel64
noncomputable def c_ref08_Short_14 : Code := match loopAt 14 (body Try.f26.body) with | some c => c | none => .skip
structure X_ref08_Short_19 where
  f1 : It10
  f5 : Int
  f102 : List ((Int) × It4)
  f103 : Int
  f104 : Int

noncomputable def B_ref08_Short_19 {R : Type} (k_exit_6 : It10 → Int → Option R) (rec : X_ref08_Short_19 → Option R) (x : X_ref08_Short_19) : Option R :=
  let v1 := decide (x.f104 < x.f103)
  cond v1
  (cond (inB x.f104 (List.length x.f102))
  (let v2 := List.getD x.f102 x.f104.toNat ((0 : Int), (([] : List (Int)), (([] : List ((Int) × (Int) × (Int) × (Int) × (List (Int)) × Unit)), ())))
  let v3 := ((List.length v2.2.1 : Nat) : Int)
  p_ref08_more x.f5 v3 fun r4 =>
  p_ref08_bodySize r4 v2.2.2.1 fun r5 =>
  let v6 := IntKind.i64.wrap (x.f104 + (1 : Int))
  rec ⟨x.f1, r5, x.f102, x.f103, v6⟩) none)
  (k_exit_6 x.f1 x.f5)
noncomputable def S_ref08_Short_19 (x : X_ref08_Short_19) : St := St.ofList [(1, (.v (.ptr 62 (.pair Ty11 Ty23)) (.o .s) (some x.f1))), (5, (.v (.int .i64) .s x.f5)), (102, (.v (.sl 120 (.pair (.int .i64) Ty14)) .s x.f102)), (103, (.v (.int .i64) .s x.f103)), (104, (.v (.int .i64) .s x.f104))]
def out_ref08_Short_19 : Ex → List (Nat × Bool) | .exit 6 => [(1, false), (5, false)] | _ => []
noncomputable def fuel_ref08_Short_19 (x : X_ref08_Short_19) : Nat := fuel64
noncomputable def c_ref08_Short_19 : Code := match loopAt 19 (body Try.f26.body) with | some c => c | none => .skip
structure X_ref08_Short_24 where
  f1 : It10
  f5 : Int
  f118 : List ((Int) × It5)
  f119 : Int
  f120 : Int

noncomputable def B_ref08_Short_24 {R : Type} (k_exit_8 : It10 → Int → Option R) (rec : X_ref08_Short_24 → Option R) (x : X_ref08_Short_24) : Option R :=
  let v1 := decide (x.f120 < x.f119)
  cond v1
  (cond (inB x.f120 (List.length x.f118))
  (let v2 := List.getD x.f118 x.f120.toNat ((0 : Int), (false, (([] : List ((Int) × (Int) × (Int) × (Int) × (List (Int)) × Unit)), ())))
  p_ref08_bodySize x.f5 v2.2.2.1 fun r3 =>
  let v4 := IntKind.i64.wrap (x.f120 + (1 : Int))
  rec ⟨x.f1, r3, x.f118, x.f119, v4⟩) none)
  (k_exit_8 x.f1 x.f5)
noncomputable def S_ref08_Short_24 (x : X_ref08_Short_24) : St := St.ofList [(1, (.v (.ptr 62 (.pair Ty11 Ty23)) (.o .s) (some x.f1))), (5, (.v (.int .i64) .s x.f5)), (118, (.v (.sl 123 (.pair (.int .i64) Ty15)) .s x.f118)), (119, (.v (.int .i64) .s x.f119)), (120, (.v (.int .i64) .s x.f120))]
def out_ref08_Short_24 : Ex → List (Nat × Bool) | .exit 8 => [(1, false), (5, false)] | _ => []
noncomputable def fuel_ref08_Short_24 (x : X_ref08_Short_24) : Nat := fuel64
noncomputable def c_ref08_Short_24 : Code := match loopAt 24 (body Try.f26.body) with | some c => c | none => .skip
structure X_ref08_Short_29 where
  f1 : It10
  f5 : Int
  f130 : List ((List UInt8) × (Int) × (Int) × Unit)
  f131 : Int
  f132 : Int

noncomputable def B_ref08_Short_29 {R : Type} (k_exit_10 : It10 → Int → Option R) (rec : X_ref08_Short_29 → Option R) (x : X_ref08_Short_29) : Option R :=
  let v1 := decide (x.f132 < x.f131)
  cond v1
  (cond (inB x.f132 (List.length x.f130))
  (let v2 := List.getD x.f130 x.f132.toNat (([] : List UInt8), ((0 : Int), ((0 : Int), ())))
  let v3 := ((List.length v2.1 : Nat) : Int)
  p_ref08_more x.f5 v3 fun r4 =>
  let v5 := IntKind.i64.wrap (x.f132 + (1 : Int))
  rec ⟨x.f1, r4, x.f130, x.f131, v5⟩) none)
  (k_exit_10 x.f1 x.f5)
noncomputable def S_ref08_Short_29 (x : X_ref08_Short_29) : St := St.ofList [(1, (.v (.ptr 62 (.pair Ty11 Ty23)) (.o .s) (some x.f1))), (5, (.v (.int .i64) .s x.f5)), (130, (.v (.sl 125 (.pair .str (.pair (.int .i64) (.pair (.int .i64) .unit)))) .s x.f130)), (131, (.v (.int .i64) .s x.f131)), (132, (.v (.int .i64) .s x.f132))]
def out_ref08_Short_29 : Ex → List (Nat × Bool) | .exit 10 => [(1, false), (5, false)] | _ => []
noncomputable def fuel_ref08_Short_29 (x : X_ref08_Short_29) : Nat := fuel64
noncomputable def c_ref08_Short_29 : Code := match loopAt 29 (body Try.f26.body) with | some c => c | none => .skip
structure X_ref08_Short_34 where
  f1 : It10
  f5 : Int
  f143 : List ((Int) × It6)
  f144 : Int
  f145 : Int

noncomputable def B_ref08_Short_34 {R : Type} (k_exit_12 : It10 → Int → Option R) (rec : X_ref08_Short_34 → Option R) (x : X_ref08_Short_34) : Option R :=
  let v1 := decide (x.f145 < x.f144)
  cond v1
  (cond (inB x.f145 (List.length x.f143))
  (let v2 := List.getD x.f143 x.f145.toNat ((0 : Int), (([] : List ((Int) × (Int) × (Int) × (Int) × (List (Int)) × Unit)), (([] : List (Int)), ())))
  let v3 := ((List.length v2.2.2.1 : Nat) : Int)
  p_ref08_more x.f5 v3 fun r4 =>
  p_ref08_bodySize r4 v2.2.1 fun r5 =>
  let v6 := IntKind.i64.wrap (x.f145 + (1 : Int))
  rec ⟨x.f1, r5, x.f143, x.f144, v6⟩) none)
  (k_exit_12 x.f1 x.f5)
noncomputable def S_ref08_Short_34 (x : X_ref08_Short_34) : St := St.ofList [(1, (.v (.ptr 62 (.pair Ty11 Ty23)) (.o .s) (some x.f1))), (5, (.v (.int .i64) .s x.f5)), (143, (.v (.sl 127 (.pair (.int .i64) Ty16)) .s x.f143)), (144, (.v (.int .i64) .s x.f144)), (145, (.v (.int .i64) .s x.f145))]
def out_ref08_Short_34 : Ex → List (Nat × Bool) | .exit 12 => [(1, false), (5, false)] | _ => []
noncomputable def fuel_ref08_Short_34 (x : X_ref08_Short_34) : Nat := fuel64
noncomputable def c_ref08_Short_34 : Code := match loopAt 34 (body Try.f26.body) with | some c => c | none => .skip
structure X_ref08_Short_39 where
  f1 : It10
  f5 : Int
  f159 : List ((Int) × It6)
  f160 : Int
  f161 : Int

noncomputable def B_ref08_Short_39 {R : Type} (k_exit_14 : It10 → Int → Option R) (rec : X_ref08_Short_39 → Option R) (x : X_ref08_Short_39) : Option R :=
  let v1 := decide (x.f161 < x.f160)
  cond v1
  (cond (inB x.f161 (List.length x.f159))
  (let v2 := List.getD x.f159 x.f161.toNat ((0 : Int), (([] : List ((Int) × (Int) × (Int) × (Int) × (List (Int)) × Unit)), (([] : List (Int)), ())))
  let v3 := ((List.length v2.2.2.1 : Nat) : Int)
  p_ref08_more x.f5 v3 fun r4 =>
  p_ref08_bodySize r4 v2.2.1 fun r5 =>
  let v6 := IntKind.i64.wrap (x.f161 + (1 : Int))
  rec ⟨x.f1, r5, x.f159, x.f160, v6⟩) none)
  (k_exit_14 x.f1 x.f5)
noncomputable def S_ref08_Short_39 (x : X_ref08_Short_39) : St := St.ofList [(1, (.v (.ptr 62 (.pair Ty11 Ty23)) (.o .s) (some x.f1))), (5, (.v (.int .i64) .s x.f5)), (159, (.v (.sl 129 (.pair (.int .i64) Ty17)) .s x.f159)), (160, (.v (.int .i64) .s x.f160)), (161, (.v (.int .i64) .s x.f161))]
def out_ref08_Short_39 : Ex → List (Nat × Bool) | .exit 14 => [(1, false), (5, false)] | _ => []
noncomputable def fuel_ref08_Short_39 (x : X_ref08_Short_39) : Nat := fuel64
noncomputable def c_ref08_Short_39 : Code := match loopAt 39 (body Try.f26.body) with | some c => c | none => .skip
structure X_ref08_Short_44 where
  f5 : Int
  f175 : List ((List UInt8) × (List (Int)) × Unit)
  f176 : Int
  f177 : Int

noncomputable def B_ref08_Short_44 {R : Type} (k_exit_16 : Int → Option R) (rec : X_ref08_Short_44 → Option R) (x : X_ref08_Short_44) : Option R :=
  let v1 := decide (x.f177 < x.f176)
  cond v1
  (cond (inB x.f177 (List.length x.f175))
  (let v2 := List.getD x.f175 x.f177.toNat (([] : List UInt8), (([] : List (Int)), ()))
  let v3 := ((List.length v2.1 : Nat) : Int)
  let v4 := ((List.length v2.2.1 : Nat) : Int)
  p_ref08_more x.f5 v3 fun r5 =>
  p_ref08_more r5 v4 fun r6 =>
  let v7 := IntKind.i64.wrap (x.f177 + (1 : Int))
  rec ⟨r6, x.f175, x.f176, v7⟩) none)
  (k_exit_16 x.f5)
noncomputable def S_ref08_Short_44 (x : X_ref08_Short_44) : St := St.ofList [(5, (.v (.int .i64) .s x.f5)), (175, (.v (.sl 44 (.pair .str (.pair (.sl 5 (.int .u8)) .unit))) .s x.f175)), (176, (.v (.int .i64) .s x.f176)), (177, (.v (.int .i64) .s x.f177))]
def out_ref08_Short_44 : Ex → List (Nat × Bool) | .exit 16 => [(5, false)] | _ => []
noncomputable def fuel_ref08_Short_44 (x : X_ref08_Short_44) : Nat := fuel64
noncomputable def c_ref08_Short_44 : Code := match loopAt 44 (body Try.f26.body) with | some c => c | none => .skip
noncomputable def lp_ref08_Short : Loops := fun z i R st K => match z, i with
  | false, 2 => coerce [(1, false), (58, false), (59, false), (60, false)] st (fun st => mP 62 (.pair Ty11 Ty23) (.o .s) (st 1) fun y1 => mV (.sl 3 (.int .i64)) (.o .s) (st 58) fun y58 => mV (.int .i64) .s (st 59) fun y59 => mV (.int .i64) .s (st 60) fun y60 => loopN (B_ref08_Short_2 (fun e2 => K .ret (St.ofList [(2, (.v .bool .s e2))])) (fun e1 => K (.exit 0) (St.ofList [(1, (.v (.ptr 62 (.pair Ty11 Ty23)) (.o .s) (some e1)))]))) (fuel_ref08_Short_2 ⟨y1, y58, y59, y60⟩) ⟨y1, y58, y59, y60⟩)
  | false, 9 => coerce [(1, false), (5, false), (68, false), (69, false), (70, false)] st (fun st => mP 62 (.pair Ty11 Ty23) (.o .s) (st 1) fun y1 => mV (.int .i64) .s (st 5) fun y5 => mV Ty11 .s (st 68) fun y68 => mV (.int .i64) .s (st 69) fun y69 => mV (.int .i64) .s (st 70) fun y70 => loopN (B_ref08_Short_9 (fun e1 e5 => K (.exit 2) (St.ofList [(1, (.v (.ptr 62 (.pair Ty11 Ty23)) (.o .s) (some e1))), (5, (.v (.int .i64) .s e5))]))) (fuel_ref08_Short_9 ⟨y1, y5, y68, y69, y70⟩) ⟨y1, y5, y68, y69, y70⟩)
  | false, 14 => coerce [(1, false), (5, false), (85, false), (86, false), (87, false)] st (fun st => mP 62 (.pair Ty11 Ty23) (.o .s) (st 1) fun y1 => mV (.int .i64) .s (st 5) fun y5 => mV (.sl 117 Ty13) .s (st 85) fun y85 => mV (.int .i64) .s (st 86) fun y86 => mV (.int .i64) .s (st 87) fun y87 => loopN (B_ref08_Short_14 (fun e1 e5 => K (.exit 4) (St.ofList [(1, (.v (.ptr 62 (.pair Ty11 Ty23)) (.o .s) (some e1))), (5, (.v (.int .i64) .s e5))]))) (fuel_ref08_Short_14 ⟨y1, y5, y85, y86, y87⟩) ⟨y1, y5, y85, y86, y87⟩)
  | false, 19 => coerce [(1, false), (5, false), (102, false), (103, false), (104, false)] st (fun st => mP 62 (.pair Ty11 Ty23) (.o .s) (st 1) fun y1 => mV (.int .i64) .s (st 5) fun y5 => mV (.sl 120 (.pair (.int .i64) Ty14)) .s (st 102) fun y102 => mV (.int .i64) .s (st 103) fun y103 => mV (.int .i64) .s (st 104) fun y104 => loopN (B_ref08_Short_19 (fun e1 e5 => K (.exit 6) (St.ofList [(1, (.v (.ptr 62 (.pair Ty11 Ty23)) (.o .s) (some e1))), (5, (.v (.int .i64) .s e5))]))) (fuel_ref08_Short_19 ⟨y1, y5, y102, y103, y104⟩) ⟨y1, y5, y102, y103, y104⟩)
  | false, 24 => coerce [(1, false), (5, false), (118, false), (119, false), (120, false)] st (fun st => mP 62 (.pair Ty11 Ty23) (.o .s) (st 1) fun y1 => mV (.int .i64) .s (st 5) fun y5 => mV (.sl 123 (.pair (.int .i64) Ty15)) .s (st 118) fun y118 => mV (.int .i64) .s (st 119) fun y119 => mV (.int .i64) .s (st 120) fun y120 => loopN (B_ref08_Short_24 (fun e1 e5 => K (.exit 8) (St.ofList [(1, (.v (.ptr 62 (.pair Ty11 Ty23)) (.o .s) (some e1))), (5, (.v (.int .i64) .s e5))]))) (fuel_ref08_Short_24 ⟨y1, y5, y118, y119, y120⟩) ⟨y1, y5, y118, y119, y120⟩)
  | false, 29 => coerce [(1, false), (5, false), (130, false), (131, false), (132, false)] st (fun st => mP 62 (.pair Ty11 Ty23) (.o .s) (st 1) fun y1 => mV (.int .i64) .s (st 5) fun y5 => mV (.sl 125 (.pair .str (.pair (.int .i64) (.pair (.int .i64) .unit)))) .s (st 130) fun y130 => mV (.int .i64) .s (st 131) fun y131 => mV (.int .i64) .s (st 132) fun y132 => loopN (B_ref08_Short_29 (fun e1 e5 => K (.exit 10) (St.ofList [(1, (.v (.ptr 62 (.pair Ty11 Ty23)) (.o .s) (some e1))), (5, (.v (.int .i64) .s e5))]))) (fuel_ref08_Short_29 ⟨y1, y5, y130, y131, y132⟩) ⟨y1, y5, y130, y131, y132⟩)
  | false, 34 => coerce [(1, false), (5, false), (143, false), (144, false), (145, false)] st (fun st => mP 62 (.pair Ty11 Ty23) (.o .s) (st 1) fun y1 => mV (.int .i64) .s (st 5) fun y5 => mV (.sl 127 (.pair (.int .i64) Ty16)) .s (st 143) fun y143 => mV (.int .i64) .s (st 144) fun y144 => mV (.int .i64) .s (st 145) fun y145 => loopN (B_ref08_Short_34 (fun e1 e5 => K (.exit 12) (St.ofList [(1, (.v (.ptr 62 (.pair Ty11 Ty23)) (.o .s) (some e1))), (5, (.v (.int .i64) .s e5))]))) (fuel_ref08_Short_34 ⟨y1, y5, y143, y144, y145⟩) ⟨y1, y5, y143, y144, y145⟩)
  | false, 39 => coerce [(1, false), (5, false), (159, false), (160, false), (161, false)] st (fun st => mP 62 (.pair Ty11 Ty23) (.o .s) (st 1) fun y1 => mV (.int .i64) .s (st 5) fun y5 => mV (.sl 129 (.pair (.int .i64) Ty17)) .s (st 159) fun y159 => mV (.int .i64) .s (st 160) fun y160 => mV (.int .i64) .s (st 161) fun y161 => loopN (B_ref08_Short_39 (fun e1 e5 => K (.exit 14) (St.ofList [(1, (.v (.ptr 62 (.pair Ty11 Ty23)) (.o .s) (some e1))), (5, (.v (.int .i64) .s e5))]))) (fuel_ref08_Short_39 ⟨y1, y5, y159, y160, y161⟩) ⟨y1, y5, y159, y160, y161⟩)
  | false, 44 => coerce [(5, false), (175, false), (176, false), (177, false)] st (fun st => mV (.int .i64) .s (st 5) fun y5 => mV (.sl 44 (.pair .str (.pair (.sl 5 (.int .u8)) .unit))) .s (st 175) fun y175 => mV (.int .i64) .s (st 176) fun y176 => mV (.int .i64) .s (st 177) fun y177 => loopN (B_ref08_Short_44 (fun e5 => K (.exit 16) (St.ofList [(5, (.v (.int .i64) .s e5))]))) (fuel_ref08_Short_44 ⟨y5, y175, y176, y177⟩) ⟨y5, y175, y176, y177⟩)
  | _, _ => none
theorem step_ref08_Short_2 (R : Type) (K : Ex → St → Option R) (rec : St → Option R) (x : X_ref08_Short_2) : evC env_ref08_Short lp_ref08_Short inl0 c_ref08_Short_2 (S_ref08_Short_2 x) (fun e st => match e with | .normal => coerce [(1, false), (58, false), (59, false), (60, false)] st rec | e => coerce (out_ref08_Short_2 e) st (K e)) = B_ref08_Short_2 (fun e2 => K .ret (St.ofList [(2, (.v .bool .s e2))])) (fun e1 => K (.exit 0) (St.ofList [(1, (.v (.ptr 62 (.pair Ty11 Ty23)) (.o .s) (some e1)))])) (fun x => rec (S_ref08_Short_2 x)) x := by kernel_rfl
theorem ok_ref08_Short_2 : LoopOk env_ref08_Short lp_ref08_Short inl0 c_ref08_Short_2 := by
  refine loopOk_of (hd := [(1, false), (58, false), (59, false), (60, false)]) (out := out_ref08_Short_2) (S := S_ref08_Short_2) (fun _ K => B_ref08_Short_2 (fun e2 => K .ret (St.ofList [(2, (.v .bool .s e2))])) (fun e1 => K (.exit 0) (St.ofList [(1, (.v (.ptr 62 (.pair Ty11 Ty23)) (.o .s) (some e1)))]))) fuel_ref08_Short_2 2 step_ref08_Short_2 (by kernel_rfl) (fun R K => fun st => mP 62 (.pair Ty11 Ty23) (.o .s) (st 1) fun y1 => mV (.sl 3 (.int .i64)) (.o .s) (st 58) fun y58 => mV (.int .i64) .s (st 59) fun y59 => mV (.int .i64) .s (st 60) fun y60 => loopN (B_ref08_Short_2 (fun e2 => K .ret (St.ofList [(2, (.v .bool .s e2))])) (fun e1 => K (.exit 0) (St.ofList [(1, (.v (.ptr 62 (.pair Ty11 Ty23)) (.o .s) (some e1)))]))) (fuel_ref08_Short_2 ⟨y1, y58, y59, y60⟩) ⟨y1, y58, y59, y60⟩) (fun R st K => by kernel_rfl) ?_
  intro R K st r h
  obtain ⟨y1, hy1, h⟩ := mP_inv h
  obtain ⟨y58, hy58, h⟩ := mV_inv h
  obtain ⟨y59, hy59, h⟩ := mV_inv h
  obtain ⟨y60, hy60, h⟩ := mV_inv h
  exact ⟨⟨y1, y58, y59, y60⟩, only_of_list (ofList_cons hy1 (ofList_cons hy58 (ofList_cons hy59 (ofList_cons hy60 rfl)))), h⟩
theorem step_ref08_Short_9 (R : Type) (K : Ex → St → Option R) (rec : St → Option R) (x : X_ref08_Short_9) : evC env_ref08_Short lp_ref08_Short inl0 c_ref08_Short_9 (S_ref08_Short_9 x) (fun e st => match e with | .normal => coerce [(1, false), (5, false), (68, false), (69, false), (70, false)] st rec | e => coerce (out_ref08_Short_9 e) st (K e)) = B_ref08_Short_9 (fun e1 e5 => K (.exit 2) (St.ofList [(1, (.v (.ptr 62 (.pair Ty11 Ty23)) (.o .s) (some e1))), (5, (.v (.int .i64) .s e5))])) (fun x => rec (S_ref08_Short_9 x)) x := by kernel_rfl
theorem ok_ref08_Short_9 : LoopOk env_ref08_Short lp_ref08_Short inl0 c_ref08_Short_9 := by
  refine loopOk_of (hd := [(1, false), (5, false), (68, false), (69, false), (70, false)]) (out := out_ref08_Short_9) (S := S_ref08_Short_9) (fun _ K => B_ref08_Short_9 (fun e1 e5 => K (.exit 2) (St.ofList [(1, (.v (.ptr 62 (.pair Ty11 Ty23)) (.o .s) (some e1))), (5, (.v (.int .i64) .s e5))]))) fuel_ref08_Short_9 9 step_ref08_Short_9 (by kernel_rfl) (fun R K => fun st => mP 62 (.pair Ty11 Ty23) (.o .s) (st 1) fun y1 => mV (.int .i64) .s (st 5) fun y5 => mV Ty11 .s (st 68) fun y68 => mV (.int .i64) .s (st 69) fun y69 => mV (.int .i64) .s (st 70) fun y70 => loopN (B_ref08_Short_9 (fun e1 e5 => K (.exit 2) (St.ofList [(1, (.v (.ptr 62 (.pair Ty11 Ty23)) (.o .s) (some e1))), (5, (.v (.int .i64) .s e5))]))) (fuel_ref08_Short_9 ⟨y1, y5, y68, y69, y70⟩) ⟨y1, y5, y68, y69, y70⟩) (fun R st K => by kernel_rfl) ?_
  intro R K st r h
  obtain ⟨y1, hy1, h⟩ := mP_inv h
  obtain ⟨y5, hy5, h⟩ := mV_inv h
  obtain ⟨y68, hy68, h⟩ := mV_inv h
  obtain ⟨y69, hy69, h⟩ := mV_inv h
  obtain ⟨y70, hy70, h⟩ := mV_inv h
  exact ⟨⟨y1, y5, y68, y69, y70⟩, only_of_list (ofList_cons hy1 (ofList_cons hy5 (ofList_cons hy68 (ofList_cons hy69 (ofList_cons hy70 rfl))))), h⟩
theorem step_ref08_Short_14 (R : Type) (K : Ex → St → Option R) (rec : St → Option R) (x : X_ref08_Short_14) : evC env_ref08_Short lp_ref08_Short inl0 c_ref08_Short_14 (S_ref08_Short_14 x) (fun e st => match e with | .normal => coerce [(1, false), (5, false), (85, false), (86, false), (87, false)] st rec | e => coerce (out_ref08_Short_14 e) st (K e)) = B_ref08_Short_14 (fun e1 e5 => K (.exit 4) (St.ofList [(1, (.v (.ptr 62 (.pair Ty11 Ty23)) (.o .s) (some e1))), (5, (.v (.int .i64) .s e5))])) (fun x => rec (S_ref08_Short_14 x)) x := by kernel_rfl
theorem ok_ref08_Short_14 : LoopOk env_ref08_Short lp_ref08_Short inl0 c_ref08_Short_14 := by
  refine loopOk_of (hd := [(1, false), (5, false), (85, false), (86, false), (87, false)]) (out := out_ref08_Short_14) (S := S_ref08_Short_14) (fun _ K => B_ref08_Short_14 (fun e1 e5 => K (.exit 4) (St.ofList [(1, (.v (.ptr 62 (.pair Ty11 Ty23)) (.o .s) (some e1))), (5, (.v (.int .i64) .s e5))]))) fuel_ref08_Short_14 14 step_ref08_Short_14 (by kernel_rfl) (fun R K => fun st => mP 62 (.pair Ty11 Ty23) (.o .s) (st 1) fun y1 => mV (.int .i64) .s (st 5) fun y5 => mV (.sl 117 Ty13) .s (st 85) fun y85 => mV (.int .i64) .s (st 86) fun y86 => mV (.int .i64) .s (st 87) fun y87 => loopN (B_ref08_Short_14 (fun e1 e5 => K (.exit 4) (St.ofList [(1, (.v (.ptr 62 (.pair Ty11 Ty23)) (.o .s) (some e1))), (5, (.v (.int .i64) .s e5))]))) (fuel_ref08_Short_14 ⟨y1, y5, y85, y86, y87⟩) ⟨y1, y5, y85, y86, y87⟩) (fun R st K => by kernel_rfl) ?_
  intro R K st r h
  obtain ⟨y1, hy1, h⟩ := mP_inv h
  obtain ⟨y5, hy5, h⟩ := mV_inv h
  obtain ⟨y85, hy85, h⟩ := mV_inv h
  obtain ⟨y86, hy86, h⟩ := mV_inv h
  obtain ⟨y87, hy87, h⟩ := mV_inv h
  exact ⟨⟨y1, y5, y85, y86, y87⟩, only_of_list (ofList_cons hy1 (ofList_cons hy5 (ofList_cons hy85 (ofList_cons hy86 (ofList_cons hy87 rfl))))), h⟩
theorem step_ref08_Short_19 (R : Type) (K : Ex → St → Option R) (rec : St → Option R) (x : X_ref08_Short_19) : evC env_ref08_Short lp_ref08_Short inl0 c_ref08_Short_19 (S_ref08_Short_19 x) (fun e st => match e with | .normal => coerce [(1, false), (5, false), (102, false), (103, false), (104, false)] st rec | e => coerce (out_ref08_Short_19 e) st (K e)) = B_ref08_Short_19 (fun e1 e5 => K (.exit 6) (St.ofList [(1, (.v (.ptr 62 (.pair Ty11 Ty23)) (.o .s) (some e1))), (5, (.v (.int .i64) .s e5))])) (fun x => rec (S_ref08_Short_19 x)) x := by kernel_rfl
theorem ok_ref08_Short_19 : LoopOk env_ref08_Short lp_ref08_Short inl0 c_ref08_Short_19 := by
  refine loopOk_of (hd := [(1, false), (5, false), (102, false), (103, false), (104, false)]) (out := out_ref08_Short_19) (S := S_ref08_Short_19) (fun _ K => B_ref08_Short_19 (fun e1 e5 => K (.exit 6) (St.ofList [(1, (.v (.ptr 62 (.pair Ty11 Ty23)) (.o .s) (some e1))), (5, (.v (.int .i64) .s e5))]))) fuel_ref08_Short_19 19 step_ref08_Short_19 (by kernel_rfl) (fun R K => fun st => mP 62 (.pair Ty11 Ty23) (.o .s) (st 1) fun y1 => mV (.int .i64) .s (st 5) fun y5 => mV (.sl 120 (.pair (.int .i64) Ty14)) .s (st 102) fun y102 => mV (.int .i64) .s (st 103) fun y103 => mV (.int .i64) .s (st 104) fun y104 => loopN (B_ref08_Short_19 (fun e1 e5 => K (.exit 6) (St.ofList [(1, (.v (.ptr 62 (.pair Ty11 Ty23)) (.o .s) (some e1))), (5, (.v (.int .i64) .s e5))]))) (fuel_ref08_Short_19 ⟨y1, y5, y102, y103, y104⟩) ⟨y1, y5, y102, y103, y104⟩) (fun R st K => by kernel_rfl) ?_
  intro R K st r h
  obtain ⟨y1, hy1, h⟩ := mP_inv h
  obtain ⟨y5, hy5, h⟩ := mV_inv h
  obtain ⟨y102, hy102, h⟩ := mV_inv h
  obtain ⟨y103, hy103, h⟩ := mV_inv h
  obtain ⟨y104, hy104, h⟩ := mV_inv h
  exact ⟨⟨y1, y5, y102, y103, y104⟩, only_of_list (ofList_cons hy1 (ofList_cons hy5 (ofList_cons hy102 (ofList_cons hy103 (ofList_cons hy104 rfl))))), h⟩
theorem step_ref08_Short_24 (R : Type) (K : Ex → St → Option R) (rec : St → Option R) (x : X_ref08_Short_24) : evC env_ref08_Short lp_ref08_Short inl0 c_ref08_Short_24 (S_ref08_Short_24 x) (fun e st => match e with | .normal => coerce [(1, false), (5, false), (118, false), (119, false), (120, false)] st rec | e => coerce (out_ref08_Short_24 e) st (K e)) = B_ref08_Short_24 (fun e1 e5 => K (.exit 8) (St.ofList [(1, (.v (.ptr 62 (.pair Ty11 Ty23)) (.o .s) (some e1))), (5, (.v (.int .i64) .s e5))])) (fun x => rec (S_ref08_Short_24 x)) x := by kernel_rfl
theorem ok_ref08_Short_24 : LoopOk env_ref08_Short lp_ref08_Short inl0 c_ref08_Short_24 := by
  refine loopOk_of (hd := [(1, false), (5, false), (118, false), (119, false), (120, false)]) (out := out_ref08_Short_24) (S := S_ref08_Short_24) (fun _ K => B_ref08_Short_24 (fun e1 e5 => K (.exit 8) (St.ofList [(1, (.v (.ptr 62 (.pair Ty11 Ty23)) (.o .s) (some e1))), (5, (.v (.int .i64) .s e5))]))) fuel_ref08_Short_24 24 step_ref08_Short_24 (by kernel_rfl) (fun R K => fun st => mP 62 (.pair Ty11 Ty23) (.o .s) (st 1) fun y1 => mV (.int .i64) .s (st 5) fun y5 => mV (.sl 123 (.pair (.int .i64) Ty15)) .s (st 118) fun y118 => mV (.int .i64) .s (st 119) fun y119 => mV (.int .i64) .s (st 120) fun y120 => loopN (B_ref08_Short_24 (fun e1 e5 => K (.exit 8) (St.ofList [(1, (.v (.ptr 62 (.pair Ty11 Ty23)) (.o .s) (some e1))), (5, (.v (.int .i64) .s e5))]))) (fuel_ref08_Short_24 ⟨y1, y5, y118, y119, y120⟩) ⟨y1, y5, y118, y119, y120⟩) (fun R st K => by kernel_rfl) ?_
  intro R K st r h
  obtain ⟨y1, hy1, h⟩ := mP_inv h
  obtain ⟨y5, hy5, h⟩ := mV_inv h
  obtain ⟨y118, hy118, h⟩ := mV_inv h
  obtain ⟨y119, hy119, h⟩ := mV_inv h
  obtain ⟨y120, hy120, h⟩ := mV_inv h
  exact ⟨⟨y1, y5, y118, y119, y120⟩, only_of_list (ofList_cons hy1 (ofList_cons hy5 (ofList_cons hy118 (ofList_cons hy119 (ofList_cons hy120 rfl))))), h⟩
theorem step_ref08_Short_29 (R : Type) (K : Ex → St → Option R) (rec : St → Option R) (x : X_ref08_Short_29) : evC env_ref08_Short lp_ref08_Short inl0 c_ref08_Short_29 (S_ref08_Short_29 x) (fun e st => match e with | .normal => coerce [(1, false), (5, false), (130, false), (131, false), (132, false)] st rec | e => coerce (out_ref08_Short_29 e) st (K e)) = B_ref08_Short_29 (fun e1 e5 => K (.exit 10) (St.ofList [(1, (.v (.ptr 62 (.pair Ty11 Ty23)) (.o .s) (some e1))), (5, (.v (.int .i64) .s e5))])) (fun x => rec (S_ref08_Short_29 x)) x := by kernel_rfl
theorem ok_ref08_Short_29 : LoopOk env_ref08_Short lp_ref08_Short inl0 c_ref08_Short_29 := by
  refine loopOk_of (hd := [(1, false), (5, false), (130, false), (131, false), (132, false)]) (out := out_ref08_Short_29) (S := S_ref08_Short_29) (fun _ K => B_ref08_Short_29 (fun e1 e5 => K (.exit 10) (St.ofList [(1, (.v (.ptr 62 (.pair Ty11 Ty23)) (.o .s) (some e1))), (5, (.v (.int .i64) .s e5))]))) fuel_ref08_Short_29 29 step_ref08_Short_29 (by kernel_rfl) (fun R K => fun st => mP 62 (.pair Ty11 Ty23) (.o .s) (st 1) fun y1 => mV (.int .i64) .s (st 5) fun y5 => mV (.sl 125 (.pair .str (.pair (.int .i64) (.pair (.int .i64) .unit)))) .s (st 130) fun y130 => mV (.int .i64) .s (st 131) fun y131 => mV (.int .i64) .s (st 132) fun y132 => loopN (B_ref08_Short_29 (fun e1 e5 => K (.exit 10) (St.ofList [(1, (.v (.ptr 62 (.pair Ty11 Ty23)) (.o .s) (some e1))), (5, (.v (.int .i64) .s e5))]))) (fuel_ref08_Short_29 ⟨y1, y5, y130, y131, y132⟩) ⟨y1, y5, y130, y131, y132⟩) (fun R st K => by kernel_rfl) ?_
  intro R K st r h
  obtain ⟨y1, hy1, h⟩ := mP_inv h
  obtain ⟨y5, hy5, h⟩ := mV_inv h
  obtain ⟨y130, hy130, h⟩ := mV_inv h
  obtain ⟨y131, hy131, h⟩ := mV_inv h
  obtain ⟨y132, hy132, h⟩ := mV_inv h
  exact ⟨⟨y1, y5, y130, y131, y132⟩, only_of_list (ofList_cons hy1 (ofList_cons hy5 (ofList_cons hy130 (ofList_cons hy131 (ofList_cons hy132 rfl))))), h⟩
theorem step_ref08_Short_34 (R : Type) (K : Ex → St → Option R) (rec : St → Option R) (x : X_ref08_Short_34) : evC env_ref08_Short lp_ref08_Short inl0 c_ref08_Short_34 (S_ref08_Short_34 x) (fun e st => match e with | .normal => coerce [(1, false), (5, false), (143, false), (144, false), (145, false)] st rec | e => coerce (out_ref08_Short_34 e) st (K e)) = B_ref08_Short_34 (fun e1 e5 => K (.exit 12) (St.ofList [(1, (.v (.ptr 62 (.pair Ty11 Ty23)) (.o .s) (some e1))), (5, (.v (.int .i64) .s e5))])) (fun x => rec (S_ref08_Short_34 x)) x := by kernel_rfl
theorem ok_ref08_Short_34 : LoopOk env_ref08_Short lp_ref08_Short inl0 c_ref08_Short_34 := by
  refine loopOk_of (hd := [(1, false), (5, false), (143, false), (144, false), (145, false)]) (out := out_ref08_Short_34) (S := S_ref08_Short_34) (fun _ K => B_ref08_Short_34 (fun e1 e5 => K (.exit 12) (St.ofList [(1, (.v (.ptr 62 (.pair Ty11 Ty23)) (.o .s) (some e1))), (5, (.v (.int .i64) .s e5))]))) fuel_ref08_Short_34 34 step_ref08_Short_34 (by kernel_rfl) (fun R K => fun st => mP 62 (.pair Ty11 Ty23) (.o .s) (st 1) fun y1 => mV (.int .i64) .s (st 5) fun y5 => mV (.sl 127 (.pair (.int .i64) Ty16)) .s (st 143) fun y143 => mV (.int .i64) .s (st 144) fun y144 => mV (.int .i64) .s (st 145) fun y145 => loopN (B_ref08_Short_34 (fun e1 e5 => K (.exit 12) (St.ofList [(1, (.v (.ptr 62 (.pair Ty11 Ty23)) (.o .s) (some e1))), (5, (.v (.int .i64) .s e5))]))) (fuel_ref08_Short_34 ⟨y1, y5, y143, y144, y145⟩) ⟨y1, y5, y143, y144, y145⟩) (fun R st K => by kernel_rfl) ?_
  intro R K st r h
  obtain ⟨y1, hy1, h⟩ := mP_inv h
  obtain ⟨y5, hy5, h⟩ := mV_inv h
  obtain ⟨y143, hy143, h⟩ := mV_inv h
  obtain ⟨y144, hy144, h⟩ := mV_inv h
  obtain ⟨y145, hy145, h⟩ := mV_inv h
  exact ⟨⟨y1, y5, y143, y144, y145⟩, only_of_list (ofList_cons hy1 (ofList_cons hy5 (ofList_cons hy143 (ofList_cons hy144 (ofList_cons hy145 rfl))))), h⟩
theorem step_ref08_Short_39 (R : Type) (K : Ex → St → Option R) (rec : St → Option R) (x : X_ref08_Short_39) : evC env_ref08_Short lp_ref08_Short inl0 c_ref08_Short_39 (S_ref08_Short_39 x) (fun e st => match e with | .normal => coerce [(1, false), (5, false), (159, false), (160, false), (161, false)] st rec | e => coerce (out_ref08_Short_39 e) st (K e)) = B_ref08_Short_39 (fun e1 e5 => K (.exit 14) (St.ofList [(1, (.v (.ptr 62 (.pair Ty11 Ty23)) (.o .s) (some e1))), (5, (.v (.int .i64) .s e5))])) (fun x => rec (S_ref08_Short_39 x)) x := by kernel_rfl
theorem ok_ref08_Short_39 : LoopOk env_ref08_Short lp_ref08_Short inl0 c_ref08_Short_39 := by
  refine loopOk_of (hd := [(1, false), (5, false), (159, false), (160, false), (161, false)]) (out := out_ref08_Short_39) (S := S_ref08_Short_39) (fun _ K => B_ref08_Short_39 (fun e1 e5 => K (.exit 14) (St.ofList [(1, (.v (.ptr 62 (.pair Ty11 Ty23)) (.o .s) (some e1))), (5, (.v (.int .i64) .s e5))]))) fuel_ref08_Short_39 39 step_ref08_Short_39 (by kernel_rfl) (fun R K => fun st => mP 62 (.pair Ty11 Ty23) (.o .s) (st 1) fun y1 => mV (.int .i64) .s (st 5) fun y5 => mV (.sl 129 (.pair (.int .i64) Ty17)) .s (st 159) fun y159 => mV (.int .i64) .s (st 160) fun y160 => mV (.int .i64) .s (st 161) fun y161 => loopN (B_ref08_Short_39 (fun e1 e5 => K (.exit 14) (St.ofList [(1, (.v (.ptr 62 (.pair Ty11 Ty23)) (.o .s) (some e1))), (5, (.v (.int .i64) .s e5))]))) (fuel_ref08_Short_39 ⟨y1, y5, y159, y160, y161⟩) ⟨y1, y5, y159, y160, y161⟩) (fun R st K => by kernel_rfl) ?_
  intro R K st r h
  obtain ⟨y1, hy1, h⟩ := mP_inv h
  obtain ⟨y5, hy5, h⟩ := mV_inv h
  obtain ⟨y159, hy159, h⟩ := mV_inv h
  obtain ⟨y160, hy160, h⟩ := mV_inv h
  obtain ⟨y161, hy161, h⟩ := mV_inv h
  exact ⟨⟨y1, y5, y159, y160, y161⟩, only_of_list (ofList_cons hy1 (ofList_cons hy5 (ofList_cons hy159 (ofList_cons hy160 (ofList_cons hy161 rfl))))), h⟩
theorem step_ref08_Short_44 (R : Type) (K : Ex → St → Option R) (rec : St → Option R) (x : X_ref08_Short_44) : evC env_ref08_Short lp_ref08_Short inl0 c_ref08_Short_44 (S_ref08_Short_44 x) (fun e st => match e with | .normal => coerce [(5, false), (175, false), (176, false), (177, false)] st rec | e => coerce (out_ref08_Short_44 e) st (K e)) = B_ref08_Short_44 (fun e5 => K (.exit 16) (St.ofList [(5, (.v (.int .i64) .s e5))])) (fun x => rec (S_ref08_Short_44 x)) x := by kernel_rfl
theorem ok_ref08_Short_44 : LoopOk env_ref08_Short lp_ref08_Short inl0 c_ref08_Short_44 := by
  refine loopOk_of (hd := [(5, false), (175, false), (176, false), (177, false)]) (out := out_ref08_Short_44) (S := S_ref08_Short_44) (fun _ K => B_ref08_Short_44 (fun e5 => K (.exit 16) (St.ofList [(5, (.v (.int .i64) .s e5))]))) fuel_ref08_Short_44 44 step_ref08_Short_44 (by kernel_rfl) (fun R K => fun st => mV (.int .i64) .s (st 5) fun y5 => mV (.sl 44 (.pair .str (.pair (.sl 5 (.int .u8)) .unit))) .s (st 175) fun y175 => mV (.int .i64) .s (st 176) fun y176 => mV (.int .i64) .s (st 177) fun y177 => loopN (B_ref08_Short_44 (fun e5 => K (.exit 16) (St.ofList [(5, (.v (.int .i64) .s e5))]))) (fuel_ref08_Short_44 ⟨y5, y175, y176, y177⟩) ⟨y5, y175, y176, y177⟩) (fun R st K => by kernel_rfl) ?_
  intro R K st r h
  obtain ⟨y5, hy5, h⟩ := mV_inv h
  obtain ⟨y175, hy175, h⟩ := mV_inv h
  obtain ⟨y176, hy176, h⟩ := mV_inv h
  obtain ⟨y177, hy177, h⟩ := mV_inv h
  exact ⟨⟨y5, y175, y176, y177⟩, only_of_list (ofList_cons hy5 (ofList_cons hy175 (ofList_cons hy176 (ofList_cons hy177 rfl)))), h⟩
theorem loops_ref08_Short : LoopsOk env_ref08_Short lp_ref08_Short inl0 (body Try.f26.body) := by
  refine loopsOk_of (fun c hc => ?_) (fun c hc => ?_)
  · rw [show loopsL (body Try.f26.body) = [c_ref08_Short_2, c_ref08_Short_9, c_ref08_Short_14, c_ref08_Short_19, c_ref08_Short_24, c_ref08_Short_29, c_ref08_Short_34, c_ref08_Short_39, c_ref08_Short_44] by kernel_rfl] at hc
    simp only [List.mem_cons, List.not_mem_nil, or_false] at hc
    rcases hc with rfl | rfl | rfl | rfl | rfl | rfl | rfl | rfl | rfl
    · exact ok_ref08_Short_2
    · exact ok_ref08_Short_9
    · exact ok_ref08_Short_14
    · exact ok_ref08_Short_19
    · exact ok_ref08_Short_24
    · exact ok_ref08_Short_29
    · exact ok_ref08_Short_34
    · exact ok_ref08_Short_39
    · exact ok_ref08_Short_44
  · rw [show joinsL env_ref08_Short (body Try.f26.body) = [] by kernel_rfl] at hc; cases hc
noncomputable def p_ref08_Short {R : Type} (a0 : It10) (K : Bool → Option R) : Option R :=
  let v1 := ((List.length a0.1 : Nat) : Int)
  let v2 := ((List.length a0.2.1 : Nat) : Int)
  let v3 := ((List.length a0.2.2.1 : Nat) : Int)
  let v4 := ((List.length a0.2.2.2.1 : Nat) : Int)
  let v5 := ((List.length a0.2.2.2.2.1 : Nat) : Int)
  let v6 := ((List.length a0.2.2.2.2.2.1 : Nat) : Int)
  let v7 := ((List.length a0.2.2.2.2.2.2.1 : Nat) : Int)
  let v8 := ((List.length a0.2.2.2.2.2.2.2.1 : Nat) : Int)
  let v9 := ((List.length a0.2.2.2.2.2.2.2.2.1 : Nat) : Int)
  let v10 := ((List.length a0.2.2.2.2.2.2.2.2.2.1 : Nat) : Int)
  let v11 := ((List.length a0.2.2.2.2.2.2.2.2.2.2.1 : Nat) : Int)
  let v12 := ((List.length a0.2.2.2.2.2.2.2.2.2.2.2.1 : Nat) : Int)
  let v13 := List.set (List.set (List.set (List.set (List.set (List.set (List.set (List.set (List.set (List.set (List.set (List.set (List.replicate 12 (0 : Int)) 0 v1) 1 v2) 2 v3) 3 v4) 4 v5) 5 v6) 6 v7) 7 v8) 8 v9) 9 v10) 10 v11) 11 v12
  let v14 := ((List.length v13 : Nat) : Int)
  loopN (B_ref08_Short_2 (fun w15 =>
  K w15) (fun w16 =>
  let v17 := ((List.length w16.1 : Nat) : Int)
  loopN (B_ref08_Short_9 (fun w18 w19 =>
  let v20 := ((List.length w18.2.1 : Nat) : Int)
  loopN (B_ref08_Short_14 (fun w21 w22 =>
  let v23 := ((List.length w21.2.2.1 : Nat) : Int)
  loopN (B_ref08_Short_19 (fun w24 w25 =>
  let v26 := ((List.length w24.2.2.2.2.2.1 : Nat) : Int)
  loopN (B_ref08_Short_24 (fun w27 w28 =>
  let v29 := ((List.length w27.2.2.2.2.2.2.1 : Nat) : Int)
  loopN (B_ref08_Short_29 (fun w30 w31 =>
  let v32 := ((List.length w30.2.2.2.2.2.2.2.2.1 : Nat) : Int)
  loopN (B_ref08_Short_34 (fun w33 w34 =>
  let v35 := ((List.length w33.2.2.2.2.2.2.2.2.2.2.1 : Nat) : Int)
  loopN (B_ref08_Short_39 (fun w36 w37 =>
  let v38 := ((List.length w36.2.2.2.2.2.2.2.2.2.2.2.1 : Nat) : Int)
  loopN (B_ref08_Short_44 (fun w39 =>
  let v40 := decide (w39 ≥ (0 : Int))
  K v40)) (fuel_ref08_Short_44 ⟨w37, w36.2.2.2.2.2.2.2.2.2.2.2.1, v38, (0 : Int)⟩) ⟨w37, w36.2.2.2.2.2.2.2.2.2.2.2.1, v38, (0 : Int)⟩)) (fuel_ref08_Short_39 ⟨w33, w34, w33.2.2.2.2.2.2.2.2.2.2.1, v35, (0 : Int)⟩) ⟨w33, w34, w33.2.2.2.2.2.2.2.2.2.2.1, v35, (0 : Int)⟩)) (fuel_ref08_Short_34 ⟨w30, w31, w30.2.2.2.2.2.2.2.2.1, v32, (0 : Int)⟩) ⟨w30, w31, w30.2.2.2.2.2.2.2.2.1, v32, (0 : Int)⟩)) (fuel_ref08_Short_29 ⟨w27, w28, w27.2.2.2.2.2.2.1, v29, (0 : Int)⟩) ⟨w27, w28, w27.2.2.2.2.2.2.1, v29, (0 : Int)⟩)) (fuel_ref08_Short_24 ⟨w24, w25, w24.2.2.2.2.2.1, v26, (0 : Int)⟩) ⟨w24, w25, w24.2.2.2.2.2.1, v26, (0 : Int)⟩)) (fuel_ref08_Short_19 ⟨w21, w22, w21.2.2.1, v23, (0 : Int)⟩) ⟨w21, w22, w21.2.2.1, v23, (0 : Int)⟩)) (fuel_ref08_Short_14 ⟨w18, w19, w18.2.1, v20, (0 : Int)⟩) ⟨w18, w19, w18.2.1, v20, (0 : Int)⟩)) (fuel_ref08_Short_9 ⟨w16, (0 : Int), w16.1, v17, (0 : Int)⟩) ⟨w16, (0 : Int), w16.1, v17, (0 : Int)⟩)) (fuel_ref08_Short_2 ⟨a0, v13, v14, (0 : Int)⟩) ⟨a0, v13, v14, (0 : Int)⟩
noncomputable def cs_ref08_Short : CSpec := { ins := [(.val (.pair Ty11 Ty23) .s)], outs := [(.bool, .s)], fn := fun (d : It10 × Unit) K _ => p_ref08_Short d.1 (fun r0 => K ((r0, ()) : Bool × Unit) ((()) : Unit)) }
theorem h_ref08_Short : Holds Try.prog 26 cs_ref08_Short := by
  refine holds_of (env := env_ref08_Short) (inl := inl0) (fn := Try.f26) (code := body Try.f26.body) (rs := [(2, none)]) (lp := lp_ref08_Short) mixed ⟨envTyOk.ty, envTyOk.eq⟩ gamOk_ref08_Short inl0_ok Try.func26 (by kernel_rfl) (by kernel_rfl) (by kernel_rfl) (by kernel_rfl) (by kernel_rfl) loops_ref08_Short (by kernel_rfl) ?_
  intro d R K Kp res h
  have : evC env_ref08_Short lp_ref08_Short inl0 (body Try.f26.body) (St.start cs_ref08_Short.ins d) (retK env_ref08_Short cs_ref08_Short.ins cs_ref08_Short.outs [(2, none)] cs_ref08_Short.pan K Kp) = cs_ref08_Short.fn d K Kp := by kernel_rfl
  rw [this]; exact h
-- f15 trammel/trammelref21.Short
noncomputable def lv_ref21_Short : Nat → Option (List Nat)
  | 0 => some [0]
  | 1 => some [0]
  | 2 => some []
  | 3 => some [0]
  | 4 => some [0, 3]
  | 5 => some [0, 3, 4]
  | 6 => some [0, 3, 4]
  | 7 => some [0, 3, 4]
  | 8 => some []
  | 9 => some [0, 3, 4]
  | 10 => some [0, 3, 4]
  | 11 => some [0, 3, 4, 5]
  | 12 => some [0, 3, 4, 5]
  | 13 => some [0, 3, 4, 5]
  | 14 => some []
  | 15 => some [0, 3, 4, 5]
  | 16 => some [0, 3, 4]
  | 17 => some []
  | 18 => some []
  | _ => none
noncomputable def env_ref21_Short : Env := { ty := envTy, eq := envEq, gam := noG, n := Try.f15.ntmps, lv := lv_ref21_Short }
structure X_ref21_Short_11 where
  f0 : List (It1)
  f3 : Int
  f4 : Int
  f5 : Int

noncomputable def B_ref21_Short_11 {R : Type} (k_ret : Bool → Option R) (k_exit_2 : (List (It1)) → Int → Int → Option R) (rec : X_ref21_Short_11 → Option R) (x : X_ref21_Short_11) : Option R :=
  cond (inB x.f4 (List.length x.f0))
  (let v1 := List.getD x.f0 x.f4.toNat (([] : List (List (((Int) × (Int) × Unit) × ((Int) × (Int) × Unit) × Unit))), ())
  let v2 := ((List.length v1.1 : Nat) : Int)
  let v3 := decide (x.f5 < v2)
  cond v3
  (let v4 := decide (x.f3 ≤ (3000 : Int))
  cond v4
  (cond (inB x.f4 (List.length x.f0))
  (let v5 := List.getD x.f0 x.f4.toNat (([] : List (List (((Int) × (Int) × Unit) × ((Int) × (Int) × Unit) × Unit))), ())
  cond (inB x.f5 (List.length v5.1))
  (let v6 := List.getD v5.1 x.f5.toNat ([] : List (((Int) × (Int) × Unit) × ((Int) × (Int) × Unit) × Unit))
  let v7 := ((List.length v6 : Nat) : Int)
  let v8 := decide (v7 > (100 : Int))
  cond v8
  (k_ret false)
  (cond (inB x.f4 (List.length x.f0))
  (let v9 := List.getD x.f0 x.f4.toNat (([] : List (List (((Int) × (Int) × Unit) × ((Int) × (Int) × Unit) × Unit))), ())
  cond (inB x.f5 (List.length v9.1))
  (let v10 := List.getD v9.1 x.f5.toNat ([] : List (((Int) × (Int) × Unit) × ((Int) × (Int) × Unit) × Unit))
  let v11 := ((List.length v10 : Nat) : Int)
  let v12 := IntKind.i64.wrap (x.f3 + v11)
  let v13 := IntKind.i64.wrap (x.f5 + (1 : Int))
  rec ⟨x.f0, v12, x.f4, v13⟩) none) none)) none) none)
  (k_exit_2 x.f0 x.f3 x.f4))
  (k_exit_2 x.f0 x.f3 x.f4)) none
noncomputable def S_ref21_Short_11 (x : X_ref21_Short_11) : St := St.ofList [(0, (.v (.sl 89 (.pair (.sl 86 (.sl 85 Ty0)) .unit)) .s x.f0)), (3, (.v (.int .i64) .s x.f3)), (4, (.v (.int .i64) .s x.f4)), (5, (.v (.int .i64) .s x.f5))]
def out_ref21_Short_11 : Ex → List (Nat × Bool) | .ret => [(2, false)] | .exit 2 => [(0, false), (3, false), (4, false)] | _ => []
noncomputable def fuel_ref21_Short_11 (x : X_ref21_Short_11) : Nat := fuel64
noncomputable def c_ref21_Short_11 : Code := match loopAt 11 (body Try.f15.body) with | some c => c | none => .skip
structure X_ref21_Short_5 where
  f0 : List (It1)
  f3 : Int
  f4 : Int

noncomputable def B_ref21_Short_5 {R : Type} (k_ret : Bool → Option R) (k_exit_0 : Option R) (rec : X_ref21_Short_5 → Option R) (x : X_ref21_Short_5) : Option R :=
  let v1 := ((List.length x.f0 : Nat) : Int)
  let v2 := decide (x.f4 < v1)
  cond v2
  (cond (inB x.f4 (List.length x.f0))
  (let v3 := List.getD x.f0 x.f4.toNat (([] : List (List (((Int) × (Int) × Unit) × ((Int) × (Int) × Unit) × Unit))), ())
  let v4 := ((List.length v3.1 : Nat) : Int)
  let v5 := decide (v4 > (2100 : Int))
  cond v5
  (k_ret false)
  (cond (inB x.f4 (List.length x.f0))
  (let v6 := List.getD x.f0 x.f4.toNat (([] : List (List (((Int) × (Int) × Unit) × ((Int) × (Int) × Unit) × Unit))), ())
  let v7 := ((List.length v6.1 : Nat) : Int)
  let v8 := IntKind.i64.wrap (x.f3 + v7)
  loopN (B_ref21_Short_11 (fun w9 =>
  k_ret w9) (fun w10 w11 w12 =>
  let v13 := decide (w11 > (3000 : Int))
  cond v13
  (k_ret false)
  (let v14 := IntKind.i64.wrap (w12 + (1 : Int))
  rec ⟨w10, w11, v14⟩))) (fuel_ref21_Short_11 ⟨x.f0, v8, x.f4, (0 : Int)⟩) ⟨x.f0, v8, x.f4, (0 : Int)⟩) none)) none)
  (k_exit_0)
noncomputable def S_ref21_Short_5 (x : X_ref21_Short_5) : St := St.ofList [(0, (.v (.sl 89 (.pair (.sl 86 (.sl 85 Ty0)) .unit)) .s x.f0)), (3, (.v (.int .i64) .s x.f3)), (4, (.v (.int .i64) .s x.f4))]
def out_ref21_Short_5 : Ex → List (Nat × Bool) | .ret => [(2, false)] | .exit 0 => [] | _ => []
noncomputable def fuel_ref21_Short_5 (x : X_ref21_Short_5) : Nat := fuel64
noncomputable def c_ref21_Short_5 : Code := match loopAt 5 (body Try.f15.body) with | some c => c | none => .skip
noncomputable def lp_ref21_Short : Loops := fun z i R st K => match z, i with
  | false, 11 => coerce [(0, false), (3, false), (4, false), (5, false)] st (fun st => mV (.sl 89 (.pair (.sl 86 (.sl 85 Ty0)) .unit)) .s (st 0) fun y0 => mV (.int .i64) .s (st 3) fun y3 => mV (.int .i64) .s (st 4) fun y4 => mV (.int .i64) .s (st 5) fun y5 => loopN (B_ref21_Short_11 (fun e2 => K .ret (St.ofList [(2, (.v .bool .s e2))])) (fun e0 e3 e4 => K (.exit 2) (St.ofList [(0, (.v (.sl 89 (.pair (.sl 86 (.sl 85 Ty0)) .unit)) .s e0)), (3, (.v (.int .i64) .s e3)), (4, (.v (.int .i64) .s e4))]))) (fuel_ref21_Short_11 ⟨y0, y3, y4, y5⟩) ⟨y0, y3, y4, y5⟩)
  | false, 5 => coerce [(0, false), (3, false), (4, false)] st (fun st => mV (.sl 89 (.pair (.sl 86 (.sl 85 Ty0)) .unit)) .s (st 0) fun y0 => mV (.int .i64) .s (st 3) fun y3 => mV (.int .i64) .s (st 4) fun y4 => loopN (B_ref21_Short_5 (fun e2 => K .ret (St.ofList [(2, (.v .bool .s e2))])) (K (.exit 0) (St.ofList []))) (fuel_ref21_Short_5 ⟨y0, y3, y4⟩) ⟨y0, y3, y4⟩)
  | _, _ => none
theorem step_ref21_Short_11 (R : Type) (K : Ex → St → Option R) (rec : St → Option R) (x : X_ref21_Short_11) : evC env_ref21_Short lp_ref21_Short inl0 c_ref21_Short_11 (S_ref21_Short_11 x) (fun e st => match e with | .normal => coerce [(0, false), (3, false), (4, false), (5, false)] st rec | e => coerce (out_ref21_Short_11 e) st (K e)) = B_ref21_Short_11 (fun e2 => K .ret (St.ofList [(2, (.v .bool .s e2))])) (fun e0 e3 e4 => K (.exit 2) (St.ofList [(0, (.v (.sl 89 (.pair (.sl 86 (.sl 85 Ty0)) .unit)) .s e0)), (3, (.v (.int .i64) .s e3)), (4, (.v (.int .i64) .s e4))])) (fun x => rec (S_ref21_Short_11 x)) x := by kernel_rfl
theorem ok_ref21_Short_11 : LoopOk env_ref21_Short lp_ref21_Short inl0 c_ref21_Short_11 := by
  refine loopOk_of (hd := [(0, false), (3, false), (4, false), (5, false)]) (out := out_ref21_Short_11) (S := S_ref21_Short_11) (fun _ K => B_ref21_Short_11 (fun e2 => K .ret (St.ofList [(2, (.v .bool .s e2))])) (fun e0 e3 e4 => K (.exit 2) (St.ofList [(0, (.v (.sl 89 (.pair (.sl 86 (.sl 85 Ty0)) .unit)) .s e0)), (3, (.v (.int .i64) .s e3)), (4, (.v (.int .i64) .s e4))]))) fuel_ref21_Short_11 11 step_ref21_Short_11 (by kernel_rfl) (fun R K => fun st => mV (.sl 89 (.pair (.sl 86 (.sl 85 Ty0)) .unit)) .s (st 0) fun y0 => mV (.int .i64) .s (st 3) fun y3 => mV (.int .i64) .s (st 4) fun y4 => mV (.int .i64) .s (st 5) fun y5 => loopN (B_ref21_Short_11 (fun e2 => K .ret (St.ofList [(2, (.v .bool .s e2))])) (fun e0 e3 e4 => K (.exit 2) (St.ofList [(0, (.v (.sl 89 (.pair (.sl 86 (.sl 85 Ty0)) .unit)) .s e0)), (3, (.v (.int .i64) .s e3)), (4, (.v (.int .i64) .s e4))]))) (fuel_ref21_Short_11 ⟨y0, y3, y4, y5⟩) ⟨y0, y3, y4, y5⟩) (fun R st K => by kernel_rfl) ?_
  intro R K st r h
  obtain ⟨y0, hy0, h⟩ := mV_inv h
  obtain ⟨y3, hy3, h⟩ := mV_inv h
  obtain ⟨y4, hy4, h⟩ := mV_inv h
  obtain ⟨y5, hy5, h⟩ := mV_inv h
  exact ⟨⟨y0, y3, y4, y5⟩, only_of_list (ofList_cons hy0 (ofList_cons hy3 (ofList_cons hy4 (ofList_cons hy5 rfl)))), h⟩
theorem step_ref21_Short_5 (R : Type) (K : Ex → St → Option R) (rec : St → Option R) (x : X_ref21_Short_5) : evC env_ref21_Short lp_ref21_Short inl0 c_ref21_Short_5 (S_ref21_Short_5 x) (fun e st => match e with | .normal => coerce [(0, false), (3, false), (4, false)] st rec | e => coerce (out_ref21_Short_5 e) st (K e)) = B_ref21_Short_5 (fun e2 => K .ret (St.ofList [(2, (.v .bool .s e2))])) (K (.exit 0) (St.ofList [])) (fun x => rec (S_ref21_Short_5 x)) x := by kernel_rfl
theorem ok_ref21_Short_5 : LoopOk env_ref21_Short lp_ref21_Short inl0 c_ref21_Short_5 := by
  refine loopOk_of (hd := [(0, false), (3, false), (4, false)]) (out := out_ref21_Short_5) (S := S_ref21_Short_5) (fun _ K => B_ref21_Short_5 (fun e2 => K .ret (St.ofList [(2, (.v .bool .s e2))])) (K (.exit 0) (St.ofList []))) fuel_ref21_Short_5 5 step_ref21_Short_5 (by kernel_rfl) (fun R K => fun st => mV (.sl 89 (.pair (.sl 86 (.sl 85 Ty0)) .unit)) .s (st 0) fun y0 => mV (.int .i64) .s (st 3) fun y3 => mV (.int .i64) .s (st 4) fun y4 => loopN (B_ref21_Short_5 (fun e2 => K .ret (St.ofList [(2, (.v .bool .s e2))])) (K (.exit 0) (St.ofList []))) (fuel_ref21_Short_5 ⟨y0, y3, y4⟩) ⟨y0, y3, y4⟩) (fun R st K => by kernel_rfl) ?_
  intro R K st r h
  obtain ⟨y0, hy0, h⟩ := mV_inv h
  obtain ⟨y3, hy3, h⟩ := mV_inv h
  obtain ⟨y4, hy4, h⟩ := mV_inv h
  exact ⟨⟨y0, y3, y4⟩, only_of_list (ofList_cons hy0 (ofList_cons hy3 (ofList_cons hy4 rfl))), h⟩
theorem loops_ref21_Short : LoopsOk env_ref21_Short lp_ref21_Short inl0 (body Try.f15.body) := by
  refine loopsOk_of (fun c hc => ?_) (fun c hc => ?_)
  · rw [show loopsL (body Try.f15.body) = [c_ref21_Short_5, c_ref21_Short_11] by kernel_rfl] at hc
    simp only [List.mem_cons, List.not_mem_nil, or_false] at hc
    rcases hc with rfl | rfl
    · exact ok_ref21_Short_5
    · exact ok_ref21_Short_11
  · rw [show joinsL env_ref21_Short (body Try.f15.body) = [] by kernel_rfl] at hc; cases hc
noncomputable def p_ref21_Short {R : Type} (a0 : List (It1)) (K : Bool → Option R) : Option R :=
  let v1 := ((List.length a0 : Nat) : Int)
  let v2 := decide (v1 > (70 : Int))
  cond v2
  (K false)
  (loopN (B_ref21_Short_5 (fun w3 =>
  K w3) (K true)) (fuel_ref21_Short_5 ⟨a0, (0 : Int), (0 : Int)⟩) ⟨a0, (0 : Int), (0 : Int)⟩)
noncomputable def cs_ref21_Short : CSpec := { ins := [(.val (.sl 89 (.pair (.sl 86 (.sl 85 Ty0)) .unit)) .s)], outs := [(.bool, .s)], fn := fun (d : (List (It1)) × Unit) K _ => p_ref21_Short d.1 (fun r0 => K ((r0, ()) : Bool × Unit) ((()) : Unit)) }
theorem h_ref21_Short : Holds Try.prog 15 cs_ref21_Short := by
  refine holds_of (env := env_ref21_Short) (inl := inl0) (fn := Try.f15) (code := body Try.f15.body) (rs := [(2, none)]) (lp := lp_ref21_Short) mixed ⟨envTyOk.ty, envTyOk.eq⟩ (fun _ _ _ h => by cases h) inl0_ok Try.func15 (by kernel_rfl) (by kernel_rfl) (by kernel_rfl) (by kernel_rfl) (by kernel_rfl) loops_ref21_Short (by kernel_rfl) ?_
  intro d R K Kp res h
  have : evC env_ref21_Short lp_ref21_Short inl0 (body Try.f15.body) (St.start cs_ref21_Short.ins d) (retK env_ref21_Short cs_ref21_Short.ins cs_ref21_Short.outs [(2, none)] cs_ref21_Short.pan K Kp) = cs_ref21_Short.fn d K Kp := by kernel_rfl
  rw [this]; exact h
-- f51 slices.Clone[[]trammel/api.Custom,trammel/api.Custom]
noncomputable def env_slices_Clone_Custom : Env := { ty := envTy, eq := envEq, gam := noG, n := Try.f51.ntmps }
noncomputable def p_slices_Clone_Custom {R : Type} (a0 : List ((List UInt8) × (List (Int)) × Unit)) (K : (List ((List UInt8) × (List (Int)) × Unit)) → Option R) : Option R :=
  cond (List.isEmpty a0)
  (both
  (K ([] : List ((List UInt8) × (List (Int)) × Unit)))
  (let v1 := List.replicate 0 (([] : List UInt8), (([] : List (Int)), ()))
  cond (decide (List.length v1 + List.length a0 ≤ most))
  (let v2 := v1 ++ a0
  K v2) none))
  (let v3 := List.replicate 0 (([] : List UInt8), (([] : List (Int)), ()))
  cond (decide (List.length v3 + List.length a0 ≤ most))
  (let v4 := v3 ++ a0
  K v4) none)
noncomputable def cs_slices_Clone_Custom : CSpec := { ins := [(.val (.sl 44 (.pair .str (.pair (.sl 5 (.int .u8)) .unit))) .s)], outs := [((.sl 44 (.pair .str (.pair (.sl 5 (.int .u8)) .unit))), (.o .s))], fn := fun (d : (List ((List UInt8) × (List (Int)) × Unit)) × Unit) K _ => p_slices_Clone_Custom d.1 (fun r0 => K ((r0, ()) : (List ((List UInt8) × (List (Int)) × Unit)) × Unit) ((()) : Unit)) }
theorem h_slices_Clone_Custom : Holds Try.prog 51 cs_slices_Clone_Custom := by
  refine holds_of (env := env_slices_Clone_Custom) (inl := inl0) (fn := Try.f51) (code := body Try.f51.body) (rs := [(2, none)]) (lp := lp0) mixed ⟨envTyOk.ty, envTyOk.eq⟩ (fun _ _ _ h => by cases h) inl0_ok Try.func51 (by kernel_rfl) (by kernel_rfl) (by kernel_rfl) (by kernel_rfl) (by kernel_rfl) (loopsOk_none (by kernel_rfl) (by kernel_rfl)) (by kernel_rfl) ?_
  intro d R K Kp res h
  have : evC env_slices_Clone_Custom lp0 inl0 (body Try.f51.body) (St.start cs_slices_Clone_Custom.ins d) (retK env_slices_Clone_Custom cs_slices_Clone_Custom.ins cs_slices_Clone_Custom.outs [(2, none)] cs_slices_Clone_Custom.pan K Kp) = cs_slices_Clone_Custom.fn d K Kp := by kernel_rfl
  rw [this]; exact h
-- f52 trammel/cert.is
noncomputable def env_cert_is : Env := { ty := envTy, eq := envEq, gam := noG, n := Try.f52.ntmps }
noncomputable def p_cert_is {R : Type} (a0 : (List UInt8) × (List (Int)) × Unit) (K : Bool → Option R) : Option R :=
  let v1 := a0.1 == ([116, 114, 97, 109, 109, 101, 108, 46, 99, 108, 97, 105, 109, 115] : List UInt8)
  K v1
noncomputable def cs_cert_is : CSpec := { ins := [(.val (.pair .str (.pair (.sl 5 (.int .u8)) .unit)) .s)], outs := [(.bool, .s)], fn := fun (d : ((List UInt8) × (List (Int)) × Unit) × Unit) K _ => p_cert_is d.1 (fun r0 => K ((r0, ()) : Bool × Unit) ((()) : Unit)) }
theorem h_cert_is : Holds Try.prog 52 cs_cert_is := by
  refine holds_of (env := env_cert_is) (inl := inl0) (fn := Try.f52) (code := body Try.f52.body) (rs := [(2, none)]) (lp := lp0) mixed ⟨envTyOk.ty, envTyOk.eq⟩ (fun _ _ _ h => by cases h) inl0_ok Try.func52 (by kernel_rfl) (by kernel_rfl) (by kernel_rfl) (by kernel_rfl) (by kernel_rfl) (loopsOk_none (by kernel_rfl) (by kernel_rfl)) (by kernel_rfl) ?_
  intro d R K Kp res h
  have : evC env_cert_is lp0 inl0 (body Try.f52.body) (St.start cs_cert_is.ins d) (retK env_cert_is cs_cert_is.ins cs_cert_is.outs [(2, none)] cs_cert_is.pan K Kp) = cs_cert_is.fn d K Kp := by kernel_rfl
  rw [this]; exact h
-- f53 slices.IndexFunc[[]trammel/api.Custom,trammel/api.Custom]
noncomputable def gam_slices_IndexFunc_Customg52 : FuncId → List FuncId → Option CSpec
  | 52, [] => some cs_cert_is
  | _, _ => none
noncomputable def env_slices_IndexFunc_Customg52 : Env := { ty := envTy, eq := envEq, gam := gam_slices_IndexFunc_Customg52, n := Try.f53.ntmps }
theorem gamOk_slices_IndexFunc_Customg52 : EnvFn Try.prog env_slices_IndexFunc_Customg52 := by
  intro f gs c h
  unfold env_slices_IndexFunc_Customg52 gam_slices_IndexFunc_Customg52 at h
  simp only at h
  split at h <;> first | (cases h; done) | (cases h; exact h_cert_is)
structure X_slices_IndexFunc_Customg52_2 where
  f0 : List ((List UInt8) × (List (Int)) × Unit)
  f7 : Int
  f8 : Int

noncomputable def B_slices_IndexFunc_Customg52_2 {R : Type} (k_ret : Int → Option R) (k_exit_0 : Option R) (rec : X_slices_IndexFunc_Customg52_2 → Option R) (x : X_slices_IndexFunc_Customg52_2) : Option R :=
  let v1 := decide (x.f8 < x.f7)
  cond v1
  (cond (inB x.f8 (List.length x.f0))
  (let v2 := List.getD x.f0 x.f8.toNat (([] : List UInt8), (([] : List (Int)), ()))
  p_cert_is v2 fun r3 =>
  cond r3
  (k_ret x.f8)
  (let v4 := IntKind.i64.wrap (x.f8 + (1 : Int))
  rec ⟨x.f0, x.f7, v4⟩)) none)
  (k_exit_0)
noncomputable def S_slices_IndexFunc_Customg52_2 (x : X_slices_IndexFunc_Customg52_2) : St := St.ofList [(0, (.v (.sl 44 (.pair .str (.pair (.sl 5 (.int .u8)) .unit))) .s x.f0)), (1, (.fn 52 [] [])), (7, (.v (.int .i64) .s x.f7)), (8, (.v (.int .i64) .s x.f8))]
def out_slices_IndexFunc_Customg52_2 : Ex → List (Nat × Bool) | .ret => [(4, false)] | .exit 0 => [] | _ => []
noncomputable def fuel_slices_IndexFunc_Customg52_2 (x : X_slices_IndexFunc_Customg52_2) : Nat := fuel64
noncomputable def c_slices_IndexFunc_Customg52_2 : Code := match loopAt 2 (body Try.f53.body) with | some c => c | none => .skip
noncomputable def lp_slices_IndexFunc_Customg52 : Loops := fun z i R st K => match z, i with
  | false, 2 => coerce [(0, false), (1, false), (7, false), (8, false)] st (fun st => mV (.sl 44 (.pair .str (.pair (.sl 5 (.int .u8)) .unit))) .s (st 0) fun y0 => mFn 52 [] [] (st 1) (mV (.int .i64) .s (st 7) fun y7 => mV (.int .i64) .s (st 8) fun y8 => loopN (B_slices_IndexFunc_Customg52_2 (fun e4 => K .ret (St.ofList [(4, (.v (.int .i64) .s e4))])) (K (.exit 0) (St.ofList []))) (fuel_slices_IndexFunc_Customg52_2 ⟨y0, y7, y8⟩) ⟨y0, y7, y8⟩))
  | _, _ => none
theorem step_slices_IndexFunc_Customg52_2 (R : Type) (K : Ex → St → Option R) (rec : St → Option R) (x : X_slices_IndexFunc_Customg52_2) : evC env_slices_IndexFunc_Customg52 lp_slices_IndexFunc_Customg52 inl0 c_slices_IndexFunc_Customg52_2 (S_slices_IndexFunc_Customg52_2 x) (fun e st => match e with | .normal => coerce [(0, false), (1, false), (7, false), (8, false)] st rec | e => coerce (out_slices_IndexFunc_Customg52_2 e) st (K e)) = B_slices_IndexFunc_Customg52_2 (fun e4 => K .ret (St.ofList [(4, (.v (.int .i64) .s e4))])) (K (.exit 0) (St.ofList [])) (fun x => rec (S_slices_IndexFunc_Customg52_2 x)) x := by kernel_rfl
theorem ok_slices_IndexFunc_Customg52_2 : LoopOk env_slices_IndexFunc_Customg52 lp_slices_IndexFunc_Customg52 inl0 c_slices_IndexFunc_Customg52_2 := by
  refine loopOk_of (hd := [(0, false), (1, false), (7, false), (8, false)]) (out := out_slices_IndexFunc_Customg52_2) (S := S_slices_IndexFunc_Customg52_2) (fun _ K => B_slices_IndexFunc_Customg52_2 (fun e4 => K .ret (St.ofList [(4, (.v (.int .i64) .s e4))])) (K (.exit 0) (St.ofList []))) fuel_slices_IndexFunc_Customg52_2 2 step_slices_IndexFunc_Customg52_2 (by kernel_rfl) (fun R K => fun st => mV (.sl 44 (.pair .str (.pair (.sl 5 (.int .u8)) .unit))) .s (st 0) fun y0 => mFn 52 [] [] (st 1) (mV (.int .i64) .s (st 7) fun y7 => mV (.int .i64) .s (st 8) fun y8 => loopN (B_slices_IndexFunc_Customg52_2 (fun e4 => K .ret (St.ofList [(4, (.v (.int .i64) .s e4))])) (K (.exit 0) (St.ofList []))) (fuel_slices_IndexFunc_Customg52_2 ⟨y0, y7, y8⟩) ⟨y0, y7, y8⟩)) (fun R st K => by kernel_rfl) ?_
  intro R K st r h
  obtain ⟨y0, hy0, h⟩ := mV_inv h
  obtain ⟨hy1, h⟩ := mFn_inv h
  obtain ⟨y7, hy7, h⟩ := mV_inv h
  obtain ⟨y8, hy8, h⟩ := mV_inv h
  exact ⟨⟨y0, y7, y8⟩, only_of_list (ofList_cons hy0 (ofList_cons hy1 (ofList_cons hy7 (ofList_cons hy8 rfl)))), h⟩
theorem loops_slices_IndexFunc_Customg52 : LoopsOk env_slices_IndexFunc_Customg52 lp_slices_IndexFunc_Customg52 inl0 (body Try.f53.body) := by
  refine loopsOk_of (fun c hc => ?_) (fun c hc => ?_)
  · rw [show loopsL (body Try.f53.body) = [c_slices_IndexFunc_Customg52_2] by kernel_rfl] at hc
    simp only [List.mem_cons, List.not_mem_nil, or_false] at hc
    rcases hc with rfl
    · exact ok_slices_IndexFunc_Customg52_2
  · rw [show joinsL env_slices_IndexFunc_Customg52 (body Try.f53.body) = [] by kernel_rfl] at hc; cases hc
noncomputable def p_slices_IndexFunc_Customg52 {R : Type} (a0 : List ((List UInt8) × (List (Int)) × Unit)) (K : Int → Option R) : Option R :=
  let v1 := ((List.length a0 : Nat) : Int)
  loopN (B_slices_IndexFunc_Customg52_2 (fun w2 =>
  K w2) (K (-1 : Int))) (fuel_slices_IndexFunc_Customg52_2 ⟨a0, v1, (0 : Int)⟩) ⟨a0, v1, (0 : Int)⟩
noncomputable def cs_slices_IndexFunc_Customg52 : CSpec := { ins := [(.val (.sl 44 (.pair .str (.pair (.sl 5 (.int .u8)) .unit))) .s), (.fn 52)], outs := [((.int .i64), .s)], fn := fun (d : (List ((List UInt8) × (List (Int)) × Unit)) × Unit × Unit) K _ => p_slices_IndexFunc_Customg52 d.1 (fun r0 => K ((r0, ()) : Int × Unit) ((()) : Unit)) }
theorem h_slices_IndexFunc_Customg52 : Holds Try.prog 53 cs_slices_IndexFunc_Customg52 := by
  refine holds_of (env := env_slices_IndexFunc_Customg52) (inl := inl0) (fn := Try.f53) (code := body Try.f53.body) (rs := [(4, none)]) (lp := lp_slices_IndexFunc_Customg52) mixed ⟨envTyOk.ty, envTyOk.eq⟩ gamOk_slices_IndexFunc_Customg52 inl0_ok Try.func53 (by kernel_rfl) (by kernel_rfl) (by kernel_rfl) (by kernel_rfl) (by kernel_rfl) loops_slices_IndexFunc_Customg52 (by kernel_rfl) ?_
  intro d R K Kp res h
  have : evC env_slices_IndexFunc_Customg52 lp_slices_IndexFunc_Customg52 inl0 (body Try.f53.body) (St.start cs_slices_IndexFunc_Customg52.ins d) (retK env_slices_IndexFunc_Customg52 cs_slices_IndexFunc_Customg52.ins cs_slices_IndexFunc_Customg52.outs [(4, none)] cs_slices_IndexFunc_Customg52.pan K Kp) = cs_slices_IndexFunc_Customg52.fn d K Kp := by kernel_rfl
  rw [this]; exact h
-- f50 slices.DeleteFunc[[]trammel/api.Custom,trammel/api.Custom]
noncomputable def gam_slices_DeleteFunc_Customg52 : FuncId → List FuncId → Option CSpec
  | 53, [52] => some cs_slices_IndexFunc_Customg52
  | 52, [] => some cs_cert_is
  | _, _ => none
noncomputable def fs_slices_DeleteFunc_Customg52 : Nat → Bool
  | 7 => true
  | _ => false
noncomputable def sb_slices_DeleteFunc_Customg52 : Nat → Bool
  | 38 => true
  | 41 => true
  | _ => false
noncomputable def env_slices_DeleteFunc_Customg52 : Env := { ty := envTy, eq := envEq, gam := gam_slices_DeleteFunc_Customg52, n := Try.f50.ntmps, fs := fs_slices_DeleteFunc_Customg52, sb := sb_slices_DeleteFunc_Customg52 }
theorem gamOk_slices_DeleteFunc_Customg52 : EnvFn Try.prog env_slices_DeleteFunc_Customg52 := by
  intro f gs c h
  unfold env_slices_DeleteFunc_Customg52 gam_slices_DeleteFunc_Customg52 at h
  simp only at h
  split at h <;> first | (cases h; done) | (cases h; exact h_slices_IndexFunc_Customg52) | (cases h; exact h_cert_is)
structure X_slices_DeleteFunc_Customg52_5 where
  f0 : List ((List UInt8) × (List (Int)) × Unit)
  f5 : Int
  f6 : Int

noncomputable def B_slices_DeleteFunc_Customg52_5 {R : Type} (k_exit_0 : (List ((List UInt8) × (List (Int)) × Unit)) → Int → Option R) (rec : X_slices_DeleteFunc_Customg52_5 → Option R) (x : X_slices_DeleteFunc_Customg52_5) : Option R :=
  let v1 := ((List.length x.f0 : Nat) : Int)
  let v2 := decide (x.f6 < v1)
  cond v2
  (cond (inB x.f6 (List.length x.f0))
  (let v3 := (List.getD x.f0 x.f6.toNat (([] : List UInt8), (([] : List (Int)), ())))
  p_cert_is v3 fun r4 =>
  let v5 := !r4
  cond v5
  (cond (inB x.f5 (List.length x.f0))
  (let v6 := IntKind.i64.wrap (x.f5 + (1 : Int))
  let v7 := IntKind.i64.wrap (x.f6 + (1 : Int))
  rec ⟨(List.set x.f0 x.f5.toNat v3), v6, v7⟩) none)
  (let v8 := IntKind.i64.wrap (x.f6 + (1 : Int))
  rec ⟨x.f0, x.f5, v8⟩)) none)
  (k_exit_0 x.f0 x.f5)
noncomputable def S_slices_DeleteFunc_Customg52_5 (x : X_slices_DeleteFunc_Customg52_5) : St := St.ofList [(0, (.v (.sl 44 (.pair .str (.pair (.sl 5 (.int .u8)) .unit))) (.o .s) x.f0)), (1, (.fn 52 [] [])), (5, (.v (.int .i64) .s x.f5)), (6, (.v (.int .i64) .s x.f6))]
def out_slices_DeleteFunc_Customg52_5 : Ex → List (Nat × Bool) | .exit 0 => [(0, false), (5, false)] | _ => []
noncomputable def fuel_slices_DeleteFunc_Customg52_5 (x : X_slices_DeleteFunc_Customg52_5) : Nat := fuel64
noncomputable def c_slices_DeleteFunc_Customg52_5 : Code := match loopAt 5 (body Try.f50.body) with | some c => c | none => .skip
noncomputable def lp_slices_DeleteFunc_Customg52 : Loops := fun z i R st K => match z, i with
  | false, 5 => coerce [(0, false), (1, false), (5, false), (6, false)] st (fun st => mV (.sl 44 (.pair .str (.pair (.sl 5 (.int .u8)) .unit))) (.o .s) (st 0) fun y0 => mFn 52 [] [] (st 1) (mV (.int .i64) .s (st 5) fun y5 => mV (.int .i64) .s (st 6) fun y6 => loopN (B_slices_DeleteFunc_Customg52_5 (fun e0 e5 => K (.exit 0) (St.ofList [(0, (.v (.sl 44 (.pair .str (.pair (.sl 5 (.int .u8)) .unit))) (.o .s) e0)), (5, (.v (.int .i64) .s e5))]))) (fuel_slices_DeleteFunc_Customg52_5 ⟨y0, y5, y6⟩) ⟨y0, y5, y6⟩))
  | _, _ => none
theorem step_slices_DeleteFunc_Customg52_5 (R : Type) (K : Ex → St → Option R) (rec : St → Option R) (x : X_slices_DeleteFunc_Customg52_5) : evC env_slices_DeleteFunc_Customg52 lp_slices_DeleteFunc_Customg52 inl0 c_slices_DeleteFunc_Customg52_5 (S_slices_DeleteFunc_Customg52_5 x) (fun e st => match e with | .normal => coerce [(0, false), (1, false), (5, false), (6, false)] st rec | e => coerce (out_slices_DeleteFunc_Customg52_5 e) st (K e)) = B_slices_DeleteFunc_Customg52_5 (fun e0 e5 => K (.exit 0) (St.ofList [(0, (.v (.sl 44 (.pair .str (.pair (.sl 5 (.int .u8)) .unit))) (.o .s) e0)), (5, (.v (.int .i64) .s e5))])) (fun x => rec (S_slices_DeleteFunc_Customg52_5 x)) x := by kernel_rfl
theorem ok_slices_DeleteFunc_Customg52_5 : LoopOk env_slices_DeleteFunc_Customg52 lp_slices_DeleteFunc_Customg52 inl0 c_slices_DeleteFunc_Customg52_5 := by
  refine loopOk_of (hd := [(0, false), (1, false), (5, false), (6, false)]) (out := out_slices_DeleteFunc_Customg52_5) (S := S_slices_DeleteFunc_Customg52_5) (fun _ K => B_slices_DeleteFunc_Customg52_5 (fun e0 e5 => K (.exit 0) (St.ofList [(0, (.v (.sl 44 (.pair .str (.pair (.sl 5 (.int .u8)) .unit))) (.o .s) e0)), (5, (.v (.int .i64) .s e5))]))) fuel_slices_DeleteFunc_Customg52_5 5 step_slices_DeleteFunc_Customg52_5 (by kernel_rfl) (fun R K => fun st => mV (.sl 44 (.pair .str (.pair (.sl 5 (.int .u8)) .unit))) (.o .s) (st 0) fun y0 => mFn 52 [] [] (st 1) (mV (.int .i64) .s (st 5) fun y5 => mV (.int .i64) .s (st 6) fun y6 => loopN (B_slices_DeleteFunc_Customg52_5 (fun e0 e5 => K (.exit 0) (St.ofList [(0, (.v (.sl 44 (.pair .str (.pair (.sl 5 (.int .u8)) .unit))) (.o .s) e0)), (5, (.v (.int .i64) .s e5))]))) (fuel_slices_DeleteFunc_Customg52_5 ⟨y0, y5, y6⟩) ⟨y0, y5, y6⟩)) (fun R st K => by kernel_rfl) ?_
  intro R K st r h
  obtain ⟨y0, hy0, h⟩ := mV_inv h
  obtain ⟨hy1, h⟩ := mFn_inv h
  obtain ⟨y5, hy5, h⟩ := mV_inv h
  obtain ⟨y6, hy6, h⟩ := mV_inv h
  exact ⟨⟨y0, y5, y6⟩, only_of_list (ofList_cons hy0 (ofList_cons hy1 (ofList_cons hy5 (ofList_cons hy6 rfl)))), h⟩
theorem loops_slices_DeleteFunc_Customg52 : LoopsOk env_slices_DeleteFunc_Customg52 lp_slices_DeleteFunc_Customg52 inl0 (body Try.f50.body) := by
  refine loopsOk_of (fun c hc => ?_) (fun c hc => ?_)
  · rw [show loopsL (body Try.f50.body) = [c_slices_DeleteFunc_Customg52_5] by kernel_rfl] at hc
    simp only [List.mem_cons, List.not_mem_nil, or_false] at hc
    rcases hc with rfl
    · exact ok_slices_DeleteFunc_Customg52_5
  · rw [show joinsL env_slices_DeleteFunc_Customg52 (body Try.f50.body) = [] by kernel_rfl] at hc; cases hc
noncomputable def p_slices_DeleteFunc_Customg52 {R : Type} (a0 : List ((List UInt8) × (List (Int)) × Unit)) (K : (List ((List UInt8) × (List (Int)) × Unit)) → Option R) : Option R :=
  p_slices_IndexFunc_Customg52 a0 fun r1 =>
  let v2 := r1 == (-1 : Int)
  cond v2
  (K a0)
  (let v3 := IntKind.i64.wrap (r1 + (1 : Int))
  loopN (B_slices_DeleteFunc_Customg52_5 (fun w4 w5 =>
  cond (inR w5 ((List.length w4 : Nat) : Int) (List.length w4))
  (cond (inR w5 ((List.length w4 : Nat) : Int) (List.length w4))
  (let v6 := wrL w4 w5.toNat (List.replicate (((List.length w4 : Nat) : Int).toNat - w5.toNat) (([] : List UInt8), (([] : List (Int)), ())))
  cond (inR (0 : Int) w5 (List.length v6))
  (let v7 := (rng v6 (0 : Int) w5)
  K v7) none) none) none)) (fuel_slices_DeleteFunc_Customg52_5 ⟨a0, r1, v3⟩) ⟨a0, r1, v3⟩)
noncomputable def cs_slices_DeleteFunc_Customg52 : CSpec := { ins := [(.val (.sl 44 (.pair .str (.pair (.sl 5 (.int .u8)) .unit))) (.o .s)), (.fn 52)], outs := [((.sl 44 (.pair .str (.pair (.sl 5 (.int .u8)) .unit))), (.o .s))], fn := fun (d : (List ((List UInt8) × (List (Int)) × Unit)) × Unit × Unit) K _ => p_slices_DeleteFunc_Customg52 d.1 (fun r0 => K ((r0, ()) : (List ((List UInt8) × (List (Int)) × Unit)) × Unit) ((()) : Unit)) }
theorem h_slices_DeleteFunc_Customg52 : Holds Try.prog 50 cs_slices_DeleteFunc_Customg52 := by
  refine holds_of (env := env_slices_DeleteFunc_Customg52) (inl := inl0) (fn := Try.f50) (code := body Try.f50.body) (rs := [(4, none)]) (lp := lp_slices_DeleteFunc_Customg52) mixed ⟨envTyOk.ty, envTyOk.eq⟩ gamOk_slices_DeleteFunc_Customg52 inl0_ok Try.func50 (by kernel_rfl) (by kernel_rfl) (by kernel_rfl) (by kernel_rfl) (by kernel_rfl) loops_slices_DeleteFunc_Customg52 (by kernel_rfl) ?_
  intro d R K Kp res h
  have : evC env_slices_DeleteFunc_Customg52 lp_slices_DeleteFunc_Customg52 inl0 (body Try.f50.body) (St.start cs_slices_DeleteFunc_Customg52.ins d) (retK env_slices_DeleteFunc_Customg52 cs_slices_DeleteFunc_Customg52.ins cs_slices_DeleteFunc_Customg52.outs [(4, none)] cs_slices_DeleteFunc_Customg52.pan K Kp) = cs_slices_DeleteFunc_Customg52.fn d K Kp := by kernel_rfl
  rw [this]; exact h
-- f27 trammel/cert.Strip
noncomputable def gam_cert_Strip : FuncId → List FuncId → Option CSpec
  | 51, [] => some cs_slices_Clone_Custom
  | 50, [52] => some cs_slices_DeleteFunc_Customg52
  | _, _ => none
noncomputable def env_cert_Strip : Env := { ty := envTy, eq := envEq, gam := gam_cert_Strip, n := Try.f27.ntmps }
theorem gamOk_cert_Strip : EnvFn Try.prog env_cert_Strip := by
  intro f gs c h
  unfold env_cert_Strip gam_cert_Strip at h
  simp only at h
  split at h <;> first | (cases h; done) | (cases h; exact h_slices_Clone_Custom) | (cases h; exact h_slices_DeleteFunc_Customg52)
noncomputable def p_cert_Strip {R : Type} (a0 : It10) (K : It10 → Option R) : Option R :=
  p_slices_Clone_Custom a0.2.2.2.2.2.2.2.2.2.2.2.1 fun r1 =>
  p_slices_DeleteFunc_Customg52 r1 fun r2 =>
  K (a0.1, (a0.2.1, (a0.2.2.1, (a0.2.2.2.1, (a0.2.2.2.2.1, (a0.2.2.2.2.2.1, (a0.2.2.2.2.2.2.1, (a0.2.2.2.2.2.2.2.1, (a0.2.2.2.2.2.2.2.2.1, (a0.2.2.2.2.2.2.2.2.2.1, (a0.2.2.2.2.2.2.2.2.2.2.1, (r2, a0.2.2.2.2.2.2.2.2.2.2.2.2))))))))))))
noncomputable def cs_cert_Strip : CSpec := { ins := [(.val (.pair Ty11 Ty23) .s)], outs := [((.pair Ty11 Ty23), (.p .s (.p .s (.p .s (.p .s (.p .s (.p .s (.p .s (.p .s (.p .s (.p .s (.p .s (.p (.o .s) .s)))))))))))))], fn := fun (d : It10 × Unit) K _ => p_cert_Strip d.1 (fun r0 => K ((r0, ()) : It10 × Unit) ((()) : Unit)) }
theorem h_cert_Strip : Holds Try.prog 27 cs_cert_Strip := by
  refine holds_of (env := env_cert_Strip) (inl := inl0) (fn := Try.f27) (code := body Try.f27.body) (rs := [(2, some 62)]) (lp := lp0) mixed ⟨envTyOk.ty, envTyOk.eq⟩ gamOk_cert_Strip inl0_ok Try.func27 (by kernel_rfl) (by kernel_rfl) (by kernel_rfl) (by kernel_rfl) (by kernel_rfl) (loopsOk_none (by kernel_rfl) (by kernel_rfl)) (by kernel_rfl) ?_
  intro d R K Kp res h
  have : evC env_cert_Strip lp0 inl0 (body Try.f27.body) (St.start cs_cert_Strip.ins d) (retK env_cert_Strip cs_cert_Strip.ins cs_cert_Strip.outs [(2, some 62)] cs_cert_Strip.pan K Kp) = cs_cert_Strip.fn d K Kp := by kernel_rfl
  rw [this]; exact h
-- f28 trammel/cert.Of
noncomputable def gam_cert_Of : FuncId → List FuncId → Option CSpec
  | 53, [52] => some cs_slices_IndexFunc_Customg52
  | 19, [] => some cs_cert_Read
  | _, _ => none
noncomputable def env_cert_Of : Env := { ty := envTy, eq := envEq, gam := gam_cert_Of, n := Try.f28.ntmps }
theorem gamOk_cert_Of : EnvFn Try.prog env_cert_Of := by
  intro f gs c h
  unfold env_cert_Of gam_cert_Of at h
  simp only at h
  split at h <;> first | (cases h; done) | (cases h; exact h_slices_IndexFunc_Customg52) | (cases h; exact h_cert_Read)
noncomputable def p_cert_Of {R : Type} (a0 : It10) (K : (List (It1)) → Bool → Option R) : Option R :=
  p_slices_IndexFunc_Customg52 a0.2.2.2.2.2.2.2.2.2.2.2.1 fun r1 =>
  let v2 := decide (r1 < (0 : Int))
  cond v2
  (K ([] : List (It1)) false)
  (cond (inB r1 (List.length a0.2.2.2.2.2.2.2.2.2.2.2.1))
  (let v3 := List.getD a0.2.2.2.2.2.2.2.2.2.2.2.1 r1.toNat (([] : List UInt8), (([] : List (Int)), ()))
  p_cert_Read v3.2.1 fun r4 r5 =>
  let v6 := r5 == (0 : Int)
  K r4 v6) none)
noncomputable def cs_cert_Of : CSpec := { ins := [(.val (.pair Ty11 Ty23) .s)], outs := [((.sl 89 (.pair (.sl 86 (.sl 85 Ty0)) .unit)), (.o .s)), (.bool, .s)], fn := fun (d : It10 × Unit) K _ => p_cert_Of d.1 (fun r0 r1 => K ((r0, r1, ()) : (List (It1)) × Bool × Unit) ((()) : Unit)) }
theorem h_cert_Of : Holds Try.prog 28 cs_cert_Of := by
  refine holds_of (env := env_cert_Of) (inl := inl0) (fn := Try.f28) (code := body Try.f28.body) (rs := [(2, none), (3, none)]) (lp := lp0) mixed ⟨envTyOk.ty, envTyOk.eq⟩ gamOk_cert_Of inl0_ok Try.func28 (by kernel_rfl) (by kernel_rfl) (by kernel_rfl) (by kernel_rfl) (by kernel_rfl) (loopsOk_none (by kernel_rfl) (by kernel_rfl)) (by kernel_rfl) ?_
  intro d R K Kp res h
  have : evC env_cert_Of lp0 inl0 (body Try.f28.body) (St.start cs_cert_Of.ins d) (retK env_cert_Of cs_cert_Of.ins cs_cert_Of.outs [(2, none), (3, none)] cs_cert_Of.pan K Kp) = cs_cert_Of.fn d K Kp := by kernel_rfl
  rw [this]; exact h
-- f56 slices.Equal[[]int,int]
noncomputable def env_slices_EqualInt : Env := { ty := envTy, eq := envEq, gam := noG, n := Try.f56.ntmps }
structure X_slices_EqualInt_4 where
  f0 : List (Int)
  f1 : List (Int)
  f12 : Int
  f13 : Int

noncomputable def B_slices_EqualInt_4 {R : Type} (k_ret : Bool → Option R) (k_exit_0 : Option R) (rec : X_slices_EqualInt_4 → Option R) (x : X_slices_EqualInt_4) : Option R :=
  let v1 := decide (x.f13 < x.f12)
  cond v1
  (cond (inB x.f13 (List.length x.f0))
  (let v2 := List.getD x.f0 x.f13.toNat (0 : Int)
  cond (inB x.f13 (List.length x.f1))
  (let v3 := List.getD x.f1 x.f13.toNat (0 : Int)
  let v4 := v2 != v3
  cond v4
  (k_ret false)
  (let v5 := IntKind.i64.wrap (x.f13 + (1 : Int))
  rec ⟨x.f0, x.f1, x.f12, v5⟩)) none) none)
  (k_exit_0)
noncomputable def S_slices_EqualInt_4 (x : X_slices_EqualInt_4) : St := St.ofList [(0, (.v (.sl 3 (.int .i64)) .s x.f0)), (1, (.v (.sl 3 (.int .i64)) .s x.f1)), (12, (.v (.int .i64) .s x.f12)), (13, (.v (.int .i64) .s x.f13))]
def out_slices_EqualInt_4 : Ex → List (Nat × Bool) | .ret => [(4, false)] | .exit 0 => [] | _ => []
noncomputable def fuel_slices_EqualInt_4 (x : X_slices_EqualInt_4) : Nat := fuel64
noncomputable def c_slices_EqualInt_4 : Code := match loopAt 4 (body Try.f56.body) with | some c => c | none => .skip
noncomputable def lp_slices_EqualInt : Loops := fun z i R st K => match z, i with
  | false, 4 => coerce [(0, false), (1, false), (12, false), (13, false)] st (fun st => mV (.sl 3 (.int .i64)) .s (st 0) fun y0 => mV (.sl 3 (.int .i64)) .s (st 1) fun y1 => mV (.int .i64) .s (st 12) fun y12 => mV (.int .i64) .s (st 13) fun y13 => loopN (B_slices_EqualInt_4 (fun e4 => K .ret (St.ofList [(4, (.v .bool .s e4))])) (K (.exit 0) (St.ofList []))) (fuel_slices_EqualInt_4 ⟨y0, y1, y12, y13⟩) ⟨y0, y1, y12, y13⟩)
  | _, _ => none
theorem step_slices_EqualInt_4 (R : Type) (K : Ex → St → Option R) (rec : St → Option R) (x : X_slices_EqualInt_4) : evC env_slices_EqualInt lp_slices_EqualInt inl0 c_slices_EqualInt_4 (S_slices_EqualInt_4 x) (fun e st => match e with | .normal => coerce [(0, false), (1, false), (12, false), (13, false)] st rec | e => coerce (out_slices_EqualInt_4 e) st (K e)) = B_slices_EqualInt_4 (fun e4 => K .ret (St.ofList [(4, (.v .bool .s e4))])) (K (.exit 0) (St.ofList [])) (fun x => rec (S_slices_EqualInt_4 x)) x := by kernel_rfl
theorem ok_slices_EqualInt_4 : LoopOk env_slices_EqualInt lp_slices_EqualInt inl0 c_slices_EqualInt_4 := by
  refine loopOk_of (hd := [(0, false), (1, false), (12, false), (13, false)]) (out := out_slices_EqualInt_4) (S := S_slices_EqualInt_4) (fun _ K => B_slices_EqualInt_4 (fun e4 => K .ret (St.ofList [(4, (.v .bool .s e4))])) (K (.exit 0) (St.ofList []))) fuel_slices_EqualInt_4 4 step_slices_EqualInt_4 (by kernel_rfl) (fun R K => fun st => mV (.sl 3 (.int .i64)) .s (st 0) fun y0 => mV (.sl 3 (.int .i64)) .s (st 1) fun y1 => mV (.int .i64) .s (st 12) fun y12 => mV (.int .i64) .s (st 13) fun y13 => loopN (B_slices_EqualInt_4 (fun e4 => K .ret (St.ofList [(4, (.v .bool .s e4))])) (K (.exit 0) (St.ofList []))) (fuel_slices_EqualInt_4 ⟨y0, y1, y12, y13⟩) ⟨y0, y1, y12, y13⟩) (fun R st K => by kernel_rfl) ?_
  intro R K st r h
  obtain ⟨y0, hy0, h⟩ := mV_inv h
  obtain ⟨y1, hy1, h⟩ := mV_inv h
  obtain ⟨y12, hy12, h⟩ := mV_inv h
  obtain ⟨y13, hy13, h⟩ := mV_inv h
  exact ⟨⟨y0, y1, y12, y13⟩, only_of_list (ofList_cons hy0 (ofList_cons hy1 (ofList_cons hy12 (ofList_cons hy13 rfl)))), h⟩
theorem loops_slices_EqualInt : LoopsOk env_slices_EqualInt lp_slices_EqualInt inl0 (body Try.f56.body) := by
  refine loopsOk_of (fun c hc => ?_) (fun c hc => ?_)
  · rw [show loopsL (body Try.f56.body) = [c_slices_EqualInt_4] by kernel_rfl] at hc
    simp only [List.mem_cons, List.not_mem_nil, or_false] at hc
    rcases hc with rfl
    · exact ok_slices_EqualInt_4
  · rw [show joinsL env_slices_EqualInt (body Try.f56.body) = [] by kernel_rfl] at hc; cases hc
noncomputable def p_slices_EqualInt {R : Type} (a0 : List (Int)) (a1 : List (Int)) (K : Bool → Option R) : Option R :=
  let v1 := ((List.length a0 : Nat) : Int)
  let v2 := ((List.length a1 : Nat) : Int)
  let v3 := v1 != v2
  cond v3
  (K false)
  (let v4 := ((List.length a0 : Nat) : Int)
  loopN (B_slices_EqualInt_4 (fun w5 =>
  K w5) (K true)) (fuel_slices_EqualInt_4 ⟨a0, a1, v4, (0 : Int)⟩) ⟨a0, a1, v4, (0 : Int)⟩)
noncomputable def cs_slices_EqualInt : CSpec := { ins := [(.val (.sl 3 (.int .i64)) .s), (.val (.sl 3 (.int .i64)) .s)], outs := [(.bool, .s)], fn := fun (d : (List (Int)) × (List (Int)) × Unit) K _ => p_slices_EqualInt d.1 d.2.1 (fun r0 => K ((r0, ()) : Bool × Unit) ((()) : Unit)) }
theorem h_slices_EqualInt : Holds Try.prog 56 cs_slices_EqualInt := by
  refine holds_of (env := env_slices_EqualInt) (inl := inl0) (fn := Try.f56) (code := body Try.f56.body) (rs := [(4, none)]) (lp := lp_slices_EqualInt) mixed ⟨envTyOk.ty, envTyOk.eq⟩ (fun _ _ _ h => by cases h) inl0_ok Try.func56 (by kernel_rfl) (by kernel_rfl) (by kernel_rfl) (by kernel_rfl) (by kernel_rfl) loops_slices_EqualInt (by kernel_rfl) ?_
  intro d R K Kp res h
  have : evC env_slices_EqualInt lp_slices_EqualInt inl0 (body Try.f56.body) (St.start cs_slices_EqualInt.ins d) (retK env_slices_EqualInt cs_slices_EqualInt.ins cs_slices_EqualInt.outs [(4, none)] cs_slices_EqualInt.pan K Kp) = cs_slices_EqualInt.fn d K Kp := by kernel_rfl
  rw [this]; exact h
-- f55 trammel/load.Same$1
noncomputable def gam_load_Same_1 : FuncId → List FuncId → Option CSpec
  | 56, [] => some cs_slices_EqualInt
  | _, _ => none
noncomputable def env_load_Same_1 : Env := { ty := envTy, eq := envEq, gam := gam_load_Same_1, n := Try.f55.ntmps }
theorem gamOk_load_Same_1 : EnvFn Try.prog env_load_Same_1 := by
  intro f gs c h
  unfold env_load_Same_1 gam_load_Same_1 at h
  simp only at h
  split at h <;> first | (cases h; done) | (cases h; exact h_slices_EqualInt)
noncomputable def p_load_Same_1 {R : Type} (a0 : (List (Int)) × (List (Int)) × Unit) (a1 : (List (Int)) × (List (Int)) × Unit) (K : Bool → Option R) : Option R :=
  p_slices_EqualInt a0.1 a1.1 fun r1 =>
  cond r1
  (p_slices_EqualInt a0.2.1 a1.2.1 fun r2 =>
  K r2)
  (K false)
noncomputable def cs_load_Same_1 : CSpec := { ins := [(.val (.pair (.sl 3 (.int .i64)) (.pair (.sl 3 (.int .i64)) .unit)) .s), (.val (.pair (.sl 3 (.int .i64)) (.pair (.sl 3 (.int .i64)) .unit)) .s)], outs := [(.bool, .s)], fn := fun (d : ((List (Int)) × (List (Int)) × Unit) × ((List (Int)) × (List (Int)) × Unit) × Unit) K _ => p_load_Same_1 d.1 d.2.1 (fun r0 => K ((r0, ()) : Bool × Unit) ((()) : Unit)) }
theorem h_load_Same_1 : Holds Try.prog 55 cs_load_Same_1 := by
  refine holds_of (env := env_load_Same_1) (inl := inl0) (fn := Try.f55) (code := body Try.f55.body) (rs := [(4, none)]) (lp := lp0) mixed ⟨envTyOk.ty, envTyOk.eq⟩ gamOk_load_Same_1 inl0_ok Try.func55 (by kernel_rfl) (by kernel_rfl) (by kernel_rfl) (by kernel_rfl) (by kernel_rfl) (loopsOk_none (by kernel_rfl) (by kernel_rfl)) (by kernel_rfl) ?_
  intro d R K Kp res h
  have : evC env_load_Same_1 lp0 inl0 (body Try.f55.body) (St.start cs_load_Same_1.ins d) (retK env_load_Same_1 cs_load_Same_1.ins cs_load_Same_1.outs [(4, none)] cs_load_Same_1.pan K Kp) = cs_load_Same_1.fn d K Kp := by kernel_rfl
  rw [this]; exact h
-- f57 slices.Equal[[]trammel/api.Import,trammel/api.Import]
noncomputable def env_slices_Equal_Import : Env := { ty := envTy, eq := envEq, gam := noG, n := Try.f57.ntmps }
structure X_slices_Equal_Import_4 where
  f0 : List ((List UInt8) × It3)
  f1 : List ((List UInt8) × It3)
  f12 : Int
  f13 : Int

noncomputable def B_slices_Equal_Import_4 {R : Type} (k_ret : Bool → Option R) (k_exit_0 : Option R) (rec : X_slices_Equal_Import_4 → Option R) (x : X_slices_Equal_Import_4) : Option R :=
  let v1 := decide (x.f13 < x.f12)
  cond v1
  (cond (inB x.f13 (List.length x.f0))
  (let v2 := List.getD x.f0 x.f13.toNat (([] : List UInt8), (([] : List UInt8), ((0 : Int), ((0 : Int), (((0 : Int), (false, ((0 : Int), ()))), (false, ()))))))
  cond (inB x.f13 (List.length x.f1))
  (let v3 := List.getD x.f1 x.f13.toNat (([] : List UInt8), (([] : List UInt8), ((0 : Int), ((0 : Int), (((0 : Int), (false, ((0 : Int), ()))), (false, ()))))))
  let v4 := !((v2.1 == v3.1) && ((v2.2.1 == v3.2.1) && ((v2.2.2.1 == v3.2.2.1) && ((v2.2.2.2.1 == v3.2.2.2.1) && (((v2.2.2.2.2.1.1 == v3.2.2.2.2.1.1) && ((v2.2.2.2.2.1.2.1 == v3.2.2.2.2.1.2.1) && ((v2.2.2.2.2.1.2.2.1 == v3.2.2.2.2.1.2.2.1) && true))) && ((v2.2.2.2.2.2.1 == v3.2.2.2.2.2.1) && true))))))
  cond v4
  (k_ret false)
  (let v5 := IntKind.i64.wrap (x.f13 + (1 : Int))
  rec ⟨x.f0, x.f1, x.f12, v5⟩)) none) none)
  (k_exit_0)
noncomputable def S_slices_Equal_Import_4 (x : X_slices_Equal_Import_4) : St := St.ofList [(0, (.v (.sl 117 Ty13) .s x.f0)), (1, (.v (.sl 117 Ty13) .s x.f1)), (12, (.v (.int .i64) .s x.f12)), (13, (.v (.int .i64) .s x.f13))]
def out_slices_Equal_Import_4 : Ex → List (Nat × Bool) | .ret => [(4, false)] | .exit 0 => [] | _ => []
noncomputable def fuel_slices_Equal_Import_4 (x : X_slices_Equal_Import_4) : Nat := fuel64
noncomputable def c_slices_Equal_Import_4 : Code := match loopAt 4 (body Try.f57.body) with | some c => c | none => .skip
noncomputable def lp_slices_Equal_Import : Loops := fun z i R st K => match z, i with
  | false, 4 => coerce [(0, false), (1, false), (12, false), (13, false)] st (fun st => mV (.sl 117 Ty13) .s (st 0) fun y0 => mV (.sl 117 Ty13) .s (st 1) fun y1 => mV (.int .i64) .s (st 12) fun y12 => mV (.int .i64) .s (st 13) fun y13 => loopN (B_slices_Equal_Import_4 (fun e4 => K .ret (St.ofList [(4, (.v .bool .s e4))])) (K (.exit 0) (St.ofList []))) (fuel_slices_Equal_Import_4 ⟨y0, y1, y12, y13⟩) ⟨y0, y1, y12, y13⟩)
  | _, _ => none
theorem step_slices_Equal_Import_4 (R : Type) (K : Ex → St → Option R) (rec : St → Option R) (x : X_slices_Equal_Import_4) : evC env_slices_Equal_Import lp_slices_Equal_Import inl0 c_slices_Equal_Import_4 (S_slices_Equal_Import_4 x) (fun e st => match e with | .normal => coerce [(0, false), (1, false), (12, false), (13, false)] st rec | e => coerce (out_slices_Equal_Import_4 e) st (K e)) = B_slices_Equal_Import_4 (fun e4 => K .ret (St.ofList [(4, (.v .bool .s e4))])) (K (.exit 0) (St.ofList [])) (fun x => rec (S_slices_Equal_Import_4 x)) x := by kernel_rfl
theorem ok_slices_Equal_Import_4 : LoopOk env_slices_Equal_Import lp_slices_Equal_Import inl0 c_slices_Equal_Import_4 := by
  refine loopOk_of (hd := [(0, false), (1, false), (12, false), (13, false)]) (out := out_slices_Equal_Import_4) (S := S_slices_Equal_Import_4) (fun _ K => B_slices_Equal_Import_4 (fun e4 => K .ret (St.ofList [(4, (.v .bool .s e4))])) (K (.exit 0) (St.ofList []))) fuel_slices_Equal_Import_4 4 step_slices_Equal_Import_4 (by kernel_rfl) (fun R K => fun st => mV (.sl 117 Ty13) .s (st 0) fun y0 => mV (.sl 117 Ty13) .s (st 1) fun y1 => mV (.int .i64) .s (st 12) fun y12 => mV (.int .i64) .s (st 13) fun y13 => loopN (B_slices_Equal_Import_4 (fun e4 => K .ret (St.ofList [(4, (.v .bool .s e4))])) (K (.exit 0) (St.ofList []))) (fuel_slices_Equal_Import_4 ⟨y0, y1, y12, y13⟩) ⟨y0, y1, y12, y13⟩) (fun R st K => by kernel_rfl) ?_
  intro R K st r h
  obtain ⟨y0, hy0, h⟩ := mV_inv h
  obtain ⟨y1, hy1, h⟩ := mV_inv h
  obtain ⟨y12, hy12, h⟩ := mV_inv h
  obtain ⟨y13, hy13, h⟩ := mV_inv h
  exact ⟨⟨y0, y1, y12, y13⟩, only_of_list (ofList_cons hy0 (ofList_cons hy1 (ofList_cons hy12 (ofList_cons hy13 rfl)))), h⟩
theorem loops_slices_Equal_Import : LoopsOk env_slices_Equal_Import lp_slices_Equal_Import inl0 (body Try.f57.body) := by
  refine loopsOk_of (fun c hc => ?_) (fun c hc => ?_)
  · rw [show loopsL (body Try.f57.body) = [c_slices_Equal_Import_4] by kernel_rfl] at hc
    simp only [List.mem_cons, List.not_mem_nil, or_false] at hc
    rcases hc with rfl
    · exact ok_slices_Equal_Import_4
  · rw [show joinsL env_slices_Equal_Import (body Try.f57.body) = [] by kernel_rfl] at hc; cases hc
noncomputable def p_slices_Equal_Import {R : Type} (a0 : List ((List UInt8) × It3)) (a1 : List ((List UInt8) × It3)) (K : Bool → Option R) : Option R :=
  let v1 := ((List.length a0 : Nat) : Int)
  let v2 := ((List.length a1 : Nat) : Int)
  let v3 := v1 != v2
  cond v3
  (K false)
  (let v4 := ((List.length a0 : Nat) : Int)
  loopN (B_slices_Equal_Import_4 (fun w5 =>
  K w5) (K true)) (fuel_slices_Equal_Import_4 ⟨a0, a1, v4, (0 : Int)⟩) ⟨a0, a1, v4, (0 : Int)⟩)
noncomputable def cs_slices_Equal_Import : CSpec := { ins := [(.val (.sl 117 Ty13) .s), (.val (.sl 117 Ty13) .s)], outs := [(.bool, .s)], fn := fun (d : (List ((List UInt8) × It3)) × (List ((List UInt8) × It3)) × Unit) K _ => p_slices_Equal_Import d.1 d.2.1 (fun r0 => K ((r0, ()) : Bool × Unit) ((()) : Unit)) }
theorem h_slices_Equal_Import : Holds Try.prog 57 cs_slices_Equal_Import := by
  refine holds_of (env := env_slices_Equal_Import) (inl := inl0) (fn := Try.f57) (code := body Try.f57.body) (rs := [(4, none)]) (lp := lp_slices_Equal_Import) mixed ⟨envTyOk.ty, envTyOk.eq⟩ (fun _ _ _ h => by cases h) inl0_ok Try.func57 (by kernel_rfl) (by kernel_rfl) (by kernel_rfl) (by kernel_rfl) (by kernel_rfl) loops_slices_Equal_Import (by kernel_rfl) ?_
  intro d R K Kp res h
  have : evC env_slices_Equal_Import lp_slices_Equal_Import inl0 (body Try.f57.body) (St.start cs_slices_Equal_Import.ins d) (retK env_slices_Equal_Import cs_slices_Equal_Import.ins cs_slices_Equal_Import.outs [(4, none)] cs_slices_Equal_Import.pan K Kp) = cs_slices_Equal_Import.fn d K Kp := by kernel_rfl
  rw [this]; exact h
-- f82 trammel/load.instrs$1
noncomputable def gam_load_instrs_1 : FuncId → List FuncId → Option CSpec
  | 56, [] => some cs_slices_EqualInt
  | _, _ => none
noncomputable def env_load_instrs_1 : Env := { ty := envTy, eq := envEq, gam := gam_load_instrs_1, n := Try.f82.ntmps }
theorem gamOk_load_instrs_1 : EnvFn Try.prog env_load_instrs_1 := by
  intro f gs c h
  unfold env_load_instrs_1 gam_load_instrs_1 at h
  simp only at h
  split at h <;> first | (cases h; done) | (cases h; exact h_slices_EqualInt)
noncomputable def p_load_instrs_1 {R : Type} (a0 : (Int) × (Int) × (Int) × (Int) × (List (Int)) × Unit) (a1 : (Int) × (Int) × (Int) × (Int) × (List (Int)) × Unit) (K : Bool → Option R) : Option R :=
  let v1 := a0.1 == a1.1
  cond v1
  (let v2 := a0.2.1 == a1.2.1
  cond v2
  (let v3 := a0.2.2.1 == a1.2.2.1
  cond v3
  (let v4 := a0.2.2.2.1 == a1.2.2.2.1
  cond v4
  (p_slices_EqualInt a0.2.2.2.2.1 a1.2.2.2.2.1 fun r5 =>
  K r5)
  (K false))
  (K false))
  (K false))
  (K false)
noncomputable def cs_load_instrs_1 : CSpec := { ins := [(.val (.pair (.int .i64) (.pair (.int .i64) Ty2)) .s), (.val (.pair (.int .i64) (.pair (.int .i64) Ty2)) .s)], outs := [(.bool, .s)], fn := fun (d : ((Int) × (Int) × (Int) × (Int) × (List (Int)) × Unit) × ((Int) × (Int) × (Int) × (Int) × (List (Int)) × Unit) × Unit) K _ => p_load_instrs_1 d.1 d.2.1 (fun r0 => K ((r0, ()) : Bool × Unit) ((()) : Unit)) }
theorem h_load_instrs_1 : Holds Try.prog 82 cs_load_instrs_1 := by
  refine holds_of (env := env_load_instrs_1) (inl := inl0) (fn := Try.f82) (code := body Try.f82.body) (rs := [(4, none)]) (lp := lp0) mixed ⟨envTyOk.ty, envTyOk.eq⟩ gamOk_load_instrs_1 inl0_ok Try.func82 (by kernel_rfl) (by kernel_rfl) (by kernel_rfl) (by kernel_rfl) (by kernel_rfl) (loopsOk_none (by kernel_rfl) (by kernel_rfl)) (by kernel_rfl) ?_
  intro d R K Kp res h
  have : evC env_load_instrs_1 lp0 inl0 (body Try.f82.body) (St.start cs_load_instrs_1.ins d) (retK env_load_instrs_1 cs_load_instrs_1.ins cs_load_instrs_1.outs [(4, none)] cs_load_instrs_1.pan K Kp) = cs_load_instrs_1.fn d K Kp := by kernel_rfl
  rw [this]; exact h
-- f81 slices.EqualFunc[[]trammel/api.Instr,[]trammel/api.Instr,trammel/api.Instr,trammel/api.Instr]
noncomputable def gam_slices_EqualFunc_Instrg82 : FuncId → List FuncId → Option CSpec
  | 82, [] => some cs_load_instrs_1
  | _, _ => none
noncomputable def fs_slices_EqualFunc_Instrg82 : Nat → Bool
  | 8 => true
  | 9 => true
  | _ => false
noncomputable def env_slices_EqualFunc_Instrg82 : Env := { ty := envTy, eq := envEq, gam := gam_slices_EqualFunc_Instrg82, n := Try.f81.ntmps, fs := fs_slices_EqualFunc_Instrg82 }
theorem gamOk_slices_EqualFunc_Instrg82 : EnvFn Try.prog env_slices_EqualFunc_Instrg82 := by
  intro f gs c h
  unfold env_slices_EqualFunc_Instrg82 gam_slices_EqualFunc_Instrg82 at h
  simp only at h
  split at h <;> first | (cases h; done) | (cases h; exact h_load_instrs_1)
structure X_slices_EqualFunc_Instrg82_4 where
  f1 : List ((Int) × (Int) × (Int) × (Int) × (List (Int)) × Unit)
  f15 : List ((Int) × (Int) × (Int) × (Int) × (List (Int)) × Unit)
  f16 : Int
  f17 : Int

noncomputable def B_slices_EqualFunc_Instrg82_4 {R : Type} (k_ret : Bool → Option R) (k_exit_0 : Option R) (rec : X_slices_EqualFunc_Instrg82_4 → Option R) (x : X_slices_EqualFunc_Instrg82_4) : Option R :=
  let v1 := decide (x.f17 < x.f16)
  cond v1
  (cond (inB x.f17 (List.length x.f15))
  (let v2 := List.getD x.f15 x.f17.toNat ((0 : Int), ((0 : Int), ((0 : Int), ((0 : Int), (([] : List (Int)), ())))))
  cond (inB x.f17 (List.length x.f1))
  (let v3 := List.getD x.f1 x.f17.toNat ((0 : Int), ((0 : Int), ((0 : Int), ((0 : Int), (([] : List (Int)), ())))))
  p_load_instrs_1 v2 v3 fun r4 =>
  let v5 := !r4
  cond v5
  (k_ret false)
  (let v6 := IntKind.i64.wrap (x.f17 + (1 : Int))
  rec ⟨x.f1, x.f15, x.f16, v6⟩)) none) none)
  (k_exit_0)
noncomputable def S_slices_EqualFunc_Instrg82_4 (x : X_slices_EqualFunc_Instrg82_4) : St := St.ofList [(1, (.v (.sl 170 (.pair (.int .i64) (.pair (.int .i64) Ty2))) .s x.f1)), (2, (.fn 82 [] [])), (15, (.v (.sl 170 (.pair (.int .i64) (.pair (.int .i64) Ty2))) .s x.f15)), (16, (.v (.int .i64) .s x.f16)), (17, (.v (.int .i64) .s x.f17))]
def out_slices_EqualFunc_Instrg82_4 : Ex → List (Nat × Bool) | .ret => [(6, false)] | .exit 0 => [] | _ => []
noncomputable def fuel_slices_EqualFunc_Instrg82_4 (x : X_slices_EqualFunc_Instrg82_4) : Nat := fuel64
noncomputable def c_slices_EqualFunc_Instrg82_4 : Code := match loopAt 4 (body Try.f81.body) with | some c => c | none => .skip
noncomputable def lp_slices_EqualFunc_Instrg82 : Loops := fun z i R st K => match z, i with
  | false, 4 => coerce [(1, false), (2, false), (15, false), (16, false), (17, false)] st (fun st => mV (.sl 170 (.pair (.int .i64) (.pair (.int .i64) Ty2))) .s (st 1) fun y1 => mFn 82 [] [] (st 2) (mV (.sl 170 (.pair (.int .i64) (.pair (.int .i64) Ty2))) .s (st 15) fun y15 => mV (.int .i64) .s (st 16) fun y16 => mV (.int .i64) .s (st 17) fun y17 => loopN (B_slices_EqualFunc_Instrg82_4 (fun e6 => K .ret (St.ofList [(6, (.v .bool .s e6))])) (K (.exit 0) (St.ofList []))) (fuel_slices_EqualFunc_Instrg82_4 ⟨y1, y15, y16, y17⟩) ⟨y1, y15, y16, y17⟩))
  | _, _ => none
theorem step_slices_EqualFunc_Instrg82_4 (R : Type) (K : Ex → St → Option R) (rec : St → Option R) (x : X_slices_EqualFunc_Instrg82_4) : evC env_slices_EqualFunc_Instrg82 lp_slices_EqualFunc_Instrg82 inl0 c_slices_EqualFunc_Instrg82_4 (S_slices_EqualFunc_Instrg82_4 x) (fun e st => match e with | .normal => coerce [(1, false), (2, false), (15, false), (16, false), (17, false)] st rec | e => coerce (out_slices_EqualFunc_Instrg82_4 e) st (K e)) = B_slices_EqualFunc_Instrg82_4 (fun e6 => K .ret (St.ofList [(6, (.v .bool .s e6))])) (K (.exit 0) (St.ofList [])) (fun x => rec (S_slices_EqualFunc_Instrg82_4 x)) x := by kernel_rfl
theorem ok_slices_EqualFunc_Instrg82_4 : LoopOk env_slices_EqualFunc_Instrg82 lp_slices_EqualFunc_Instrg82 inl0 c_slices_EqualFunc_Instrg82_4 := by
  refine loopOk_of (hd := [(1, false), (2, false), (15, false), (16, false), (17, false)]) (out := out_slices_EqualFunc_Instrg82_4) (S := S_slices_EqualFunc_Instrg82_4) (fun _ K => B_slices_EqualFunc_Instrg82_4 (fun e6 => K .ret (St.ofList [(6, (.v .bool .s e6))])) (K (.exit 0) (St.ofList []))) fuel_slices_EqualFunc_Instrg82_4 4 step_slices_EqualFunc_Instrg82_4 (by kernel_rfl) (fun R K => fun st => mV (.sl 170 (.pair (.int .i64) (.pair (.int .i64) Ty2))) .s (st 1) fun y1 => mFn 82 [] [] (st 2) (mV (.sl 170 (.pair (.int .i64) (.pair (.int .i64) Ty2))) .s (st 15) fun y15 => mV (.int .i64) .s (st 16) fun y16 => mV (.int .i64) .s (st 17) fun y17 => loopN (B_slices_EqualFunc_Instrg82_4 (fun e6 => K .ret (St.ofList [(6, (.v .bool .s e6))])) (K (.exit 0) (St.ofList []))) (fuel_slices_EqualFunc_Instrg82_4 ⟨y1, y15, y16, y17⟩) ⟨y1, y15, y16, y17⟩)) (fun R st K => by kernel_rfl) ?_
  intro R K st r h
  obtain ⟨y1, hy1, h⟩ := mV_inv h
  obtain ⟨hy2, h⟩ := mFn_inv h
  obtain ⟨y15, hy15, h⟩ := mV_inv h
  obtain ⟨y16, hy16, h⟩ := mV_inv h
  obtain ⟨y17, hy17, h⟩ := mV_inv h
  exact ⟨⟨y1, y15, y16, y17⟩, only_of_list (ofList_cons hy1 (ofList_cons hy2 (ofList_cons hy15 (ofList_cons hy16 (ofList_cons hy17 rfl))))), h⟩
theorem loops_slices_EqualFunc_Instrg82 : LoopsOk env_slices_EqualFunc_Instrg82 lp_slices_EqualFunc_Instrg82 inl0 (body Try.f81.body) := by
  refine loopsOk_of (fun c hc => ?_) (fun c hc => ?_)
  · rw [show loopsL (body Try.f81.body) = [c_slices_EqualFunc_Instrg82_4] by kernel_rfl] at hc
    simp only [List.mem_cons, List.not_mem_nil, or_false] at hc
    rcases hc with rfl
    · exact ok_slices_EqualFunc_Instrg82_4
  · rw [show joinsL env_slices_EqualFunc_Instrg82 (body Try.f81.body) = [] by kernel_rfl] at hc; cases hc
noncomputable def p_slices_EqualFunc_Instrg82 {R : Type} (a0 : List ((Int) × (Int) × (Int) × (Int) × (List (Int)) × Unit)) (a1 : List ((Int) × (Int) × (Int) × (Int) × (List (Int)) × Unit)) (K : Bool → Option R) : Option R :=
  let v1 := ((List.length a0 : Nat) : Int)
  let v2 := ((List.length a1 : Nat) : Int)
  let v3 := v1 != v2
  cond v3
  (K false)
  (let v4 := ((List.length a0 : Nat) : Int)
  loopN (B_slices_EqualFunc_Instrg82_4 (fun w5 =>
  K w5) (K true)) (fuel_slices_EqualFunc_Instrg82_4 ⟨a1, a0, v4, (0 : Int)⟩) ⟨a1, a0, v4, (0 : Int)⟩)
noncomputable def cs_slices_EqualFunc_Instrg82 : CSpec := { ins := [(.val (.sl 170 (.pair (.int .i64) (.pair (.int .i64) Ty2))) .s), (.val (.sl 170 (.pair (.int .i64) (.pair (.int .i64) Ty2))) .s), (.fn 82)], outs := [(.bool, .s)], fn := fun (d : (List ((Int) × (Int) × (Int) × (Int) × (List (Int)) × Unit)) × (List ((Int) × (Int) × (Int) × (Int) × (List (Int)) × Unit)) × Unit × Unit) K _ => p_slices_EqualFunc_Instrg82 d.1 d.2.1 (fun r0 => K ((r0, ()) : Bool × Unit) ((()) : Unit)) }
theorem h_slices_EqualFunc_Instrg82 : Holds Try.prog 81 cs_slices_EqualFunc_Instrg82 := by
  refine holds_of (env := env_slices_EqualFunc_Instrg82) (inl := inl0) (fn := Try.f81) (code := body Try.f81.body) (rs := [(6, none)]) (lp := lp_slices_EqualFunc_Instrg82) mixed ⟨envTyOk.ty, envTyOk.eq⟩ gamOk_slices_EqualFunc_Instrg82 inl0_ok Try.func81 (by kernel_rfl) (by kernel_rfl) (by kernel_rfl) (by kernel_rfl) (by kernel_rfl) loops_slices_EqualFunc_Instrg82 (by kernel_rfl) ?_
  intro d R K Kp res h
  have : evC env_slices_EqualFunc_Instrg82 lp_slices_EqualFunc_Instrg82 inl0 (body Try.f81.body) (St.start cs_slices_EqualFunc_Instrg82.ins d) (retK env_slices_EqualFunc_Instrg82 cs_slices_EqualFunc_Instrg82.ins cs_slices_EqualFunc_Instrg82.outs [(6, none)] cs_slices_EqualFunc_Instrg82.pan K Kp) = cs_slices_EqualFunc_Instrg82.fn d K Kp := by kernel_rfl
  rw [this]; exact h
-- f60 trammel/load.instrs
noncomputable def gam_load_instrs : FuncId → List FuncId → Option CSpec
  | 81, [82] => some cs_slices_EqualFunc_Instrg82
  | _, _ => none
noncomputable def env_load_instrs : Env := { ty := envTy, eq := envEq, gam := gam_load_instrs, n := Try.f60.ntmps }
theorem gamOk_load_instrs : EnvFn Try.prog env_load_instrs := by
  intro f gs c h
  unfold env_load_instrs gam_load_instrs at h
  simp only at h
  split at h <;> first | (cases h; done) | (cases h; exact h_slices_EqualFunc_Instrg82)
noncomputable def p_load_instrs {R : Type} (a0 : List ((Int) × (Int) × (Int) × (Int) × (List (Int)) × Unit)) (a1 : List ((Int) × (Int) × (Int) × (Int) × (List (Int)) × Unit)) (K : Bool → Option R) : Option R :=
  p_slices_EqualFunc_Instrg82 a0 a1 fun r1 =>
  K r1
noncomputable def cs_load_instrs : CSpec := { ins := [(.val (.sl 170 (.pair (.int .i64) (.pair (.int .i64) Ty2))) .s), (.val (.sl 170 (.pair (.int .i64) (.pair (.int .i64) Ty2))) .s)], outs := [(.bool, .s)], fn := fun (d : (List ((Int) × (Int) × (Int) × (Int) × (List (Int)) × Unit)) × (List ((Int) × (Int) × (Int) × (Int) × (List (Int)) × Unit)) × Unit) K _ => p_load_instrs d.1 d.2.1 (fun r0 => K ((r0, ()) : Bool × Unit) ((()) : Unit)) }
theorem h_load_instrs : Holds Try.prog 60 cs_load_instrs := by
  refine holds_of (env := env_load_instrs) (inl := inl0) (fn := Try.f60) (code := body Try.f60.body) (rs := [(4, none)]) (lp := lp0) mixed ⟨envTyOk.ty, envTyOk.eq⟩ gamOk_load_instrs inl0_ok Try.func60 (by kernel_rfl) (by kernel_rfl) (by kernel_rfl) (by kernel_rfl) (by kernel_rfl) (loopsOk_none (by kernel_rfl) (by kernel_rfl)) (by kernel_rfl) ?_
  intro d R K Kp res h
  have : evC env_load_instrs lp0 inl0 (body Try.f60.body) (St.start cs_load_instrs.ins d) (retK env_load_instrs cs_load_instrs.ins cs_load_instrs.outs [(4, none)] cs_load_instrs.pan K Kp) = cs_load_instrs.fn d K Kp := by kernel_rfl
  rw [this]; exact h
-- f59 trammel/load.Same$2
noncomputable def gam_load_Same_2 : FuncId → List FuncId → Option CSpec
  | 56, [] => some cs_slices_EqualInt
  | 60, [] => some cs_load_instrs
  | _, _ => none
noncomputable def env_load_Same_2 : Env := { ty := envTy, eq := envEq, gam := gam_load_Same_2, n := Try.f59.ntmps }
theorem gamOk_load_Same_2 : EnvFn Try.prog env_load_Same_2 := by
  intro f gs c h
  unfold env_load_Same_2 gam_load_Same_2 at h
  simp only at h
  split at h <;> first | (cases h; done) | (cases h; exact h_slices_EqualInt) | (cases h; exact h_load_instrs)
noncomputable def p_load_Same_2 {R : Type} (a0 : (Int) × It4) (a1 : (Int) × It4) (K : Bool → Option R) : Option R :=
  let v1 := a0.1 == a1.1
  cond v1
  (p_slices_EqualInt a0.2.1 a1.2.1 fun r2 =>
  cond r2
  (p_load_instrs a0.2.2.1 a1.2.2.1 fun r3 =>
  K r3)
  (K false))
  (K false)
noncomputable def cs_load_Same_2 : CSpec := { ins := [(.val (.pair (.int .i64) Ty14) .s), (.val (.pair (.int .i64) Ty14) .s)], outs := [(.bool, .s)], fn := fun (d : ((Int) × It4) × ((Int) × It4) × Unit) K _ => p_load_Same_2 d.1 d.2.1 (fun r0 => K ((r0, ()) : Bool × Unit) ((()) : Unit)) }
theorem h_load_Same_2 : Holds Try.prog 59 cs_load_Same_2 := by
  refine holds_of (env := env_load_Same_2) (inl := inl0) (fn := Try.f59) (code := body Try.f59.body) (rs := [(4, none)]) (lp := lp0) mixed ⟨envTyOk.ty, envTyOk.eq⟩ gamOk_load_Same_2 inl0_ok Try.func59 (by kernel_rfl) (by kernel_rfl) (by kernel_rfl) (by kernel_rfl) (by kernel_rfl) (loopsOk_none (by kernel_rfl) (by kernel_rfl)) (by kernel_rfl) ?_
  intro d R K Kp res h
  have : evC env_load_Same_2 lp0 inl0 (body Try.f59.body) (St.start cs_load_Same_2.ins d) (retK env_load_Same_2 cs_load_Same_2.ins cs_load_Same_2.outs [(4, none)] cs_load_Same_2.pan K Kp) = cs_load_Same_2.fn d K Kp := by kernel_rfl
  rw [this]; exact h
-- f61 slices.Equal[[]trammel/api.Limits,trammel/api.Limits]
noncomputable def env_slices_Equal_Limits : Env := { ty := envTy, eq := envEq, gam := noG, n := Try.f61.ntmps }
structure X_slices_Equal_Limits_4 where
  f0 : List ((Int) × (Bool) × (Int) × Unit)
  f1 : List ((Int) × (Bool) × (Int) × Unit)
  f12 : Int
  f13 : Int

noncomputable def B_slices_Equal_Limits_4 {R : Type} (k_ret : Bool → Option R) (k_exit_0 : Option R) (rec : X_slices_Equal_Limits_4 → Option R) (x : X_slices_Equal_Limits_4) : Option R :=
  let v1 := decide (x.f13 < x.f12)
  cond v1
  (cond (inB x.f13 (List.length x.f0))
  (let v2 := List.getD x.f0 x.f13.toNat ((0 : Int), (false, ((0 : Int), ())))
  cond (inB x.f13 (List.length x.f1))
  (let v3 := List.getD x.f1 x.f13.toNat ((0 : Int), (false, ((0 : Int), ())))
  let v4 := !((v2.1 == v3.1) && ((v2.2.1 == v3.2.1) && ((v2.2.2.1 == v3.2.2.1) && true)))
  cond v4
  (k_ret false)
  (let v5 := IntKind.i64.wrap (x.f13 + (1 : Int))
  rec ⟨x.f0, x.f1, x.f12, v5⟩)) none) none)
  (k_exit_0)
noncomputable def S_slices_Equal_Limits_4 (x : X_slices_Equal_Limits_4) : St := St.ofList [(0, (.v (.sl 115 (.pair (.int .i64) (.pair .bool (.pair (.int .i64) .unit)))) .s x.f0)), (1, (.v (.sl 115 (.pair (.int .i64) (.pair .bool (.pair (.int .i64) .unit)))) .s x.f1)), (12, (.v (.int .i64) .s x.f12)), (13, (.v (.int .i64) .s x.f13))]
def out_slices_Equal_Limits_4 : Ex → List (Nat × Bool) | .ret => [(4, false)] | .exit 0 => [] | _ => []
noncomputable def fuel_slices_Equal_Limits_4 (x : X_slices_Equal_Limits_4) : Nat := fuel64
noncomputable def c_slices_Equal_Limits_4 : Code := match loopAt 4 (body Try.f61.body) with | some c => c | none => .skip
noncomputable def lp_slices_Equal_Limits : Loops := fun z i R st K => match z, i with
  | false, 4 => coerce [(0, false), (1, false), (12, false), (13, false)] st (fun st => mV (.sl 115 (.pair (.int .i64) (.pair .bool (.pair (.int .i64) .unit)))) .s (st 0) fun y0 => mV (.sl 115 (.pair (.int .i64) (.pair .bool (.pair (.int .i64) .unit)))) .s (st 1) fun y1 => mV (.int .i64) .s (st 12) fun y12 => mV (.int .i64) .s (st 13) fun y13 => loopN (B_slices_Equal_Limits_4 (fun e4 => K .ret (St.ofList [(4, (.v .bool .s e4))])) (K (.exit 0) (St.ofList []))) (fuel_slices_Equal_Limits_4 ⟨y0, y1, y12, y13⟩) ⟨y0, y1, y12, y13⟩)
  | _, _ => none
theorem step_slices_Equal_Limits_4 (R : Type) (K : Ex → St → Option R) (rec : St → Option R) (x : X_slices_Equal_Limits_4) : evC env_slices_Equal_Limits lp_slices_Equal_Limits inl0 c_slices_Equal_Limits_4 (S_slices_Equal_Limits_4 x) (fun e st => match e with | .normal => coerce [(0, false), (1, false), (12, false), (13, false)] st rec | e => coerce (out_slices_Equal_Limits_4 e) st (K e)) = B_slices_Equal_Limits_4 (fun e4 => K .ret (St.ofList [(4, (.v .bool .s e4))])) (K (.exit 0) (St.ofList [])) (fun x => rec (S_slices_Equal_Limits_4 x)) x := by kernel_rfl
theorem ok_slices_Equal_Limits_4 : LoopOk env_slices_Equal_Limits lp_slices_Equal_Limits inl0 c_slices_Equal_Limits_4 := by
  refine loopOk_of (hd := [(0, false), (1, false), (12, false), (13, false)]) (out := out_slices_Equal_Limits_4) (S := S_slices_Equal_Limits_4) (fun _ K => B_slices_Equal_Limits_4 (fun e4 => K .ret (St.ofList [(4, (.v .bool .s e4))])) (K (.exit 0) (St.ofList []))) fuel_slices_Equal_Limits_4 4 step_slices_Equal_Limits_4 (by kernel_rfl) (fun R K => fun st => mV (.sl 115 (.pair (.int .i64) (.pair .bool (.pair (.int .i64) .unit)))) .s (st 0) fun y0 => mV (.sl 115 (.pair (.int .i64) (.pair .bool (.pair (.int .i64) .unit)))) .s (st 1) fun y1 => mV (.int .i64) .s (st 12) fun y12 => mV (.int .i64) .s (st 13) fun y13 => loopN (B_slices_Equal_Limits_4 (fun e4 => K .ret (St.ofList [(4, (.v .bool .s e4))])) (K (.exit 0) (St.ofList []))) (fuel_slices_Equal_Limits_4 ⟨y0, y1, y12, y13⟩) ⟨y0, y1, y12, y13⟩) (fun R st K => by kernel_rfl) ?_
  intro R K st r h
  obtain ⟨y0, hy0, h⟩ := mV_inv h
  obtain ⟨y1, hy1, h⟩ := mV_inv h
  obtain ⟨y12, hy12, h⟩ := mV_inv h
  obtain ⟨y13, hy13, h⟩ := mV_inv h
  exact ⟨⟨y0, y1, y12, y13⟩, only_of_list (ofList_cons hy0 (ofList_cons hy1 (ofList_cons hy12 (ofList_cons hy13 rfl)))), h⟩
theorem loops_slices_Equal_Limits : LoopsOk env_slices_Equal_Limits lp_slices_Equal_Limits inl0 (body Try.f61.body) := by
  refine loopsOk_of (fun c hc => ?_) (fun c hc => ?_)
  · rw [show loopsL (body Try.f61.body) = [c_slices_Equal_Limits_4] by kernel_rfl] at hc
    simp only [List.mem_cons, List.not_mem_nil, or_false] at hc
    rcases hc with rfl
    · exact ok_slices_Equal_Limits_4
  · rw [show joinsL env_slices_Equal_Limits (body Try.f61.body) = [] by kernel_rfl] at hc; cases hc
noncomputable def p_slices_Equal_Limits {R : Type} (a0 : List ((Int) × (Bool) × (Int) × Unit)) (a1 : List ((Int) × (Bool) × (Int) × Unit)) (K : Bool → Option R) : Option R :=
  let v1 := ((List.length a0 : Nat) : Int)
  let v2 := ((List.length a1 : Nat) : Int)
  let v3 := v1 != v2
  cond v3
  (K false)
  (let v4 := ((List.length a0 : Nat) : Int)
  loopN (B_slices_Equal_Limits_4 (fun w5 =>
  K w5) (K true)) (fuel_slices_Equal_Limits_4 ⟨a0, a1, v4, (0 : Int)⟩) ⟨a0, a1, v4, (0 : Int)⟩)
noncomputable def cs_slices_Equal_Limits : CSpec := { ins := [(.val (.sl 115 (.pair (.int .i64) (.pair .bool (.pair (.int .i64) .unit)))) .s), (.val (.sl 115 (.pair (.int .i64) (.pair .bool (.pair (.int .i64) .unit)))) .s)], outs := [(.bool, .s)], fn := fun (d : (List ((Int) × (Bool) × (Int) × Unit)) × (List ((Int) × (Bool) × (Int) × Unit)) × Unit) K _ => p_slices_Equal_Limits d.1 d.2.1 (fun r0 => K ((r0, ()) : Bool × Unit) ((()) : Unit)) }
theorem h_slices_Equal_Limits : Holds Try.prog 61 cs_slices_Equal_Limits := by
  refine holds_of (env := env_slices_Equal_Limits) (inl := inl0) (fn := Try.f61) (code := body Try.f61.body) (rs := [(4, none)]) (lp := lp_slices_Equal_Limits) mixed ⟨envTyOk.ty, envTyOk.eq⟩ (fun _ _ _ h => by cases h) inl0_ok Try.func61 (by kernel_rfl) (by kernel_rfl) (by kernel_rfl) (by kernel_rfl) (by kernel_rfl) loops_slices_Equal_Limits (by kernel_rfl) ?_
  intro d R K Kp res h
  have : evC env_slices_Equal_Limits lp_slices_Equal_Limits inl0 (body Try.f61.body) (St.start cs_slices_Equal_Limits.ins d) (retK env_slices_Equal_Limits cs_slices_Equal_Limits.ins cs_slices_Equal_Limits.outs [(4, none)] cs_slices_Equal_Limits.pan K Kp) = cs_slices_Equal_Limits.fn d K Kp := by kernel_rfl
  rw [this]; exact h
-- f63 trammel/load.Same$3
noncomputable def gam_load_Same_3 : FuncId → List FuncId → Option CSpec
  | 60, [] => some cs_load_instrs
  | _, _ => none
noncomputable def env_load_Same_3 : Env := { ty := envTy, eq := envEq, gam := gam_load_Same_3, n := Try.f63.ntmps }
theorem gamOk_load_Same_3 : EnvFn Try.prog env_load_Same_3 := by
  intro f gs c h
  unfold env_load_Same_3 gam_load_Same_3 at h
  simp only at h
  split at h <;> first | (cases h; done) | (cases h; exact h_load_instrs)
noncomputable def p_load_Same_3 {R : Type} (a0 : (Int) × It5) (a1 : (Int) × It5) (K : Bool → Option R) : Option R :=
  let v1 := a0.1 == a1.1
  cond v1
  (let v2 := a0.2.1 == a1.2.1
  cond v2
  (p_load_instrs a0.2.2.1 a1.2.2.1 fun r3 =>
  K r3)
  (K false))
  (K false)
noncomputable def cs_load_Same_3 : CSpec := { ins := [(.val (.pair (.int .i64) Ty15) .s), (.val (.pair (.int .i64) Ty15) .s)], outs := [(.bool, .s)], fn := fun (d : ((Int) × It5) × ((Int) × It5) × Unit) K _ => p_load_Same_3 d.1 d.2.1 (fun r0 => K ((r0, ()) : Bool × Unit) ((()) : Unit)) }
theorem h_load_Same_3 : Holds Try.prog 63 cs_load_Same_3 := by
  refine holds_of (env := env_load_Same_3) (inl := inl0) (fn := Try.f63) (code := body Try.f63.body) (rs := [(4, none)]) (lp := lp0) mixed ⟨envTyOk.ty, envTyOk.eq⟩ gamOk_load_Same_3 inl0_ok Try.func63 (by kernel_rfl) (by kernel_rfl) (by kernel_rfl) (by kernel_rfl) (by kernel_rfl) (loopsOk_none (by kernel_rfl) (by kernel_rfl)) (by kernel_rfl) ?_
  intro d R K Kp res h
  have : evC env_load_Same_3 lp0 inl0 (body Try.f63.body) (St.start cs_load_Same_3.ins d) (retK env_load_Same_3 cs_load_Same_3.ins cs_load_Same_3.outs [(4, none)] cs_load_Same_3.pan K Kp) = cs_load_Same_3.fn d K Kp := by kernel_rfl
  rw [this]; exact h
-- f64 slices.Equal[[]trammel/api.Export,trammel/api.Export]
noncomputable def env_slices_Equal_Export : Env := { ty := envTy, eq := envEq, gam := noG, n := Try.f64.ntmps }
structure X_slices_Equal_Export_4 where
  f0 : List ((List UInt8) × (Int) × (Int) × Unit)
  f1 : List ((List UInt8) × (Int) × (Int) × Unit)
  f12 : Int
  f13 : Int

noncomputable def B_slices_Equal_Export_4 {R : Type} (k_ret : Bool → Option R) (k_exit_0 : Option R) (rec : X_slices_Equal_Export_4 → Option R) (x : X_slices_Equal_Export_4) : Option R :=
  let v1 := decide (x.f13 < x.f12)
  cond v1
  (cond (inB x.f13 (List.length x.f0))
  (let v2 := List.getD x.f0 x.f13.toNat (([] : List UInt8), ((0 : Int), ((0 : Int), ())))
  cond (inB x.f13 (List.length x.f1))
  (let v3 := List.getD x.f1 x.f13.toNat (([] : List UInt8), ((0 : Int), ((0 : Int), ())))
  let v4 := !((v2.1 == v3.1) && ((v2.2.1 == v3.2.1) && ((v2.2.2.1 == v3.2.2.1) && true)))
  cond v4
  (k_ret false)
  (let v5 := IntKind.i64.wrap (x.f13 + (1 : Int))
  rec ⟨x.f0, x.f1, x.f12, v5⟩)) none) none)
  (k_exit_0)
noncomputable def S_slices_Equal_Export_4 (x : X_slices_Equal_Export_4) : St := St.ofList [(0, (.v (.sl 125 (.pair .str (.pair (.int .i64) (.pair (.int .i64) .unit)))) .s x.f0)), (1, (.v (.sl 125 (.pair .str (.pair (.int .i64) (.pair (.int .i64) .unit)))) .s x.f1)), (12, (.v (.int .i64) .s x.f12)), (13, (.v (.int .i64) .s x.f13))]
def out_slices_Equal_Export_4 : Ex → List (Nat × Bool) | .ret => [(4, false)] | .exit 0 => [] | _ => []
noncomputable def fuel_slices_Equal_Export_4 (x : X_slices_Equal_Export_4) : Nat := fuel64
noncomputable def c_slices_Equal_Export_4 : Code := match loopAt 4 (body Try.f64.body) with | some c => c | none => .skip
noncomputable def lp_slices_Equal_Export : Loops := fun z i R st K => match z, i with
  | false, 4 => coerce [(0, false), (1, false), (12, false), (13, false)] st (fun st => mV (.sl 125 (.pair .str (.pair (.int .i64) (.pair (.int .i64) .unit)))) .s (st 0) fun y0 => mV (.sl 125 (.pair .str (.pair (.int .i64) (.pair (.int .i64) .unit)))) .s (st 1) fun y1 => mV (.int .i64) .s (st 12) fun y12 => mV (.int .i64) .s (st 13) fun y13 => loopN (B_slices_Equal_Export_4 (fun e4 => K .ret (St.ofList [(4, (.v .bool .s e4))])) (K (.exit 0) (St.ofList []))) (fuel_slices_Equal_Export_4 ⟨y0, y1, y12, y13⟩) ⟨y0, y1, y12, y13⟩)
  | _, _ => none
theorem step_slices_Equal_Export_4 (R : Type) (K : Ex → St → Option R) (rec : St → Option R) (x : X_slices_Equal_Export_4) : evC env_slices_Equal_Export lp_slices_Equal_Export inl0 c_slices_Equal_Export_4 (S_slices_Equal_Export_4 x) (fun e st => match e with | .normal => coerce [(0, false), (1, false), (12, false), (13, false)] st rec | e => coerce (out_slices_Equal_Export_4 e) st (K e)) = B_slices_Equal_Export_4 (fun e4 => K .ret (St.ofList [(4, (.v .bool .s e4))])) (K (.exit 0) (St.ofList [])) (fun x => rec (S_slices_Equal_Export_4 x)) x := by kernel_rfl
theorem ok_slices_Equal_Export_4 : LoopOk env_slices_Equal_Export lp_slices_Equal_Export inl0 c_slices_Equal_Export_4 := by
  refine loopOk_of (hd := [(0, false), (1, false), (12, false), (13, false)]) (out := out_slices_Equal_Export_4) (S := S_slices_Equal_Export_4) (fun _ K => B_slices_Equal_Export_4 (fun e4 => K .ret (St.ofList [(4, (.v .bool .s e4))])) (K (.exit 0) (St.ofList []))) fuel_slices_Equal_Export_4 4 step_slices_Equal_Export_4 (by kernel_rfl) (fun R K => fun st => mV (.sl 125 (.pair .str (.pair (.int .i64) (.pair (.int .i64) .unit)))) .s (st 0) fun y0 => mV (.sl 125 (.pair .str (.pair (.int .i64) (.pair (.int .i64) .unit)))) .s (st 1) fun y1 => mV (.int .i64) .s (st 12) fun y12 => mV (.int .i64) .s (st 13) fun y13 => loopN (B_slices_Equal_Export_4 (fun e4 => K .ret (St.ofList [(4, (.v .bool .s e4))])) (K (.exit 0) (St.ofList []))) (fuel_slices_Equal_Export_4 ⟨y0, y1, y12, y13⟩) ⟨y0, y1, y12, y13⟩) (fun R st K => by kernel_rfl) ?_
  intro R K st r h
  obtain ⟨y0, hy0, h⟩ := mV_inv h
  obtain ⟨y1, hy1, h⟩ := mV_inv h
  obtain ⟨y12, hy12, h⟩ := mV_inv h
  obtain ⟨y13, hy13, h⟩ := mV_inv h
  exact ⟨⟨y0, y1, y12, y13⟩, only_of_list (ofList_cons hy0 (ofList_cons hy1 (ofList_cons hy12 (ofList_cons hy13 rfl)))), h⟩
theorem loops_slices_Equal_Export : LoopsOk env_slices_Equal_Export lp_slices_Equal_Export inl0 (body Try.f64.body) := by
  refine loopsOk_of (fun c hc => ?_) (fun c hc => ?_)
  · rw [show loopsL (body Try.f64.body) = [c_slices_Equal_Export_4] by kernel_rfl] at hc
    simp only [List.mem_cons, List.not_mem_nil, or_false] at hc
    rcases hc with rfl
    · exact ok_slices_Equal_Export_4
  · rw [show joinsL env_slices_Equal_Export (body Try.f64.body) = [] by kernel_rfl] at hc; cases hc
noncomputable def p_slices_Equal_Export {R : Type} (a0 : List ((List UInt8) × (Int) × (Int) × Unit)) (a1 : List ((List UInt8) × (Int) × (Int) × Unit)) (K : Bool → Option R) : Option R :=
  let v1 := ((List.length a0 : Nat) : Int)
  let v2 := ((List.length a1 : Nat) : Int)
  let v3 := v1 != v2
  cond v3
  (K false)
  (let v4 := ((List.length a0 : Nat) : Int)
  loopN (B_slices_Equal_Export_4 (fun w5 =>
  K w5) (K true)) (fuel_slices_Equal_Export_4 ⟨a0, a1, v4, (0 : Int)⟩) ⟨a0, a1, v4, (0 : Int)⟩)
noncomputable def cs_slices_Equal_Export : CSpec := { ins := [(.val (.sl 125 (.pair .str (.pair (.int .i64) (.pair (.int .i64) .unit)))) .s), (.val (.sl 125 (.pair .str (.pair (.int .i64) (.pair (.int .i64) .unit)))) .s)], outs := [(.bool, .s)], fn := fun (d : (List ((List UInt8) × (Int) × (Int) × Unit)) × (List ((List UInt8) × (Int) × (Int) × Unit)) × Unit) K _ => p_slices_Equal_Export d.1 d.2.1 (fun r0 => K ((r0, ()) : Bool × Unit) ((()) : Unit)) }
theorem h_slices_Equal_Export : Holds Try.prog 64 cs_slices_Equal_Export := by
  refine holds_of (env := env_slices_Equal_Export) (inl := inl0) (fn := Try.f64) (code := body Try.f64.body) (rs := [(4, none)]) (lp := lp_slices_Equal_Export) mixed ⟨envTyOk.ty, envTyOk.eq⟩ (fun _ _ _ h => by cases h) inl0_ok Try.func64 (by kernel_rfl) (by kernel_rfl) (by kernel_rfl) (by kernel_rfl) (by kernel_rfl) loops_slices_Equal_Export (by kernel_rfl) ?_
  intro d R K Kp res h
  have : evC env_slices_Equal_Export lp_slices_Equal_Export inl0 (body Try.f64.body) (St.start cs_slices_Equal_Export.ins d) (retK env_slices_Equal_Export cs_slices_Equal_Export.ins cs_slices_Equal_Export.outs [(4, none)] cs_slices_Equal_Export.pan K Kp) = cs_slices_Equal_Export.fn d K Kp := by kernel_rfl
  rw [this]; exact h
-- f66 trammel/load.Same$4
noncomputable def gam_load_Same_4 : FuncId → List FuncId → Option CSpec
  | 60, [] => some cs_load_instrs
  | 56, [] => some cs_slices_EqualInt
  | _, _ => none
noncomputable def env_load_Same_4 : Env := { ty := envTy, eq := envEq, gam := gam_load_Same_4, n := Try.f66.ntmps }
theorem gamOk_load_Same_4 : EnvFn Try.prog env_load_Same_4 := by
  intro f gs c h
  unfold env_load_Same_4 gam_load_Same_4 at h
  simp only at h
  split at h <;> first | (cases h; done) | (cases h; exact h_load_instrs) | (cases h; exact h_slices_EqualInt)
noncomputable def p_load_Same_4 {R : Type} (a0 : (Int) × It6) (a1 : (Int) × It6) (K : Bool → Option R) : Option R :=
  let v1 := a0.1 == a1.1
  cond v1
  (p_load_instrs a0.2.1 a1.2.1 fun r2 =>
  cond r2
  (p_slices_EqualInt a0.2.2.1 a1.2.2.1 fun r3 =>
  K r3)
  (K false))
  (K false)
noncomputable def cs_load_Same_4 : CSpec := { ins := [(.val (.pair (.int .i64) Ty16) .s), (.val (.pair (.int .i64) Ty16) .s)], outs := [(.bool, .s)], fn := fun (d : ((Int) × It6) × ((Int) × It6) × Unit) K _ => p_load_Same_4 d.1 d.2.1 (fun r0 => K ((r0, ()) : Bool × Unit) ((()) : Unit)) }
theorem h_load_Same_4 : Holds Try.prog 66 cs_load_Same_4 := by
  refine holds_of (env := env_load_Same_4) (inl := inl0) (fn := Try.f66) (code := body Try.f66.body) (rs := [(4, none)]) (lp := lp0) mixed ⟨envTyOk.ty, envTyOk.eq⟩ gamOk_load_Same_4 inl0_ok Try.func66 (by kernel_rfl) (by kernel_rfl) (by kernel_rfl) (by kernel_rfl) (by kernel_rfl) (loopsOk_none (by kernel_rfl) (by kernel_rfl)) (by kernel_rfl) ?_
  intro d R K Kp res h
  have : evC env_load_Same_4 lp0 inl0 (body Try.f66.body) (St.start cs_load_Same_4.ins d) (retK env_load_Same_4 cs_load_Same_4.ins cs_load_Same_4.outs [(4, none)] cs_load_Same_4.pan K Kp) = cs_load_Same_4.fn d K Kp := by kernel_rfl
  rw [this]; exact h
-- f69 bytes.Equal
noncomputable def env_bytes_Equal : Env := { ty := envTy, eq := envEq, gam := noG, n := Try.f69.ntmps }
noncomputable def p_bytes_Equal {R : Type} (a0 : List (Int)) (a1 : List (Int)) (K : Bool → Option R) : Option R :=
  let v1 := u8s a0
  let v2 := u8s a1
  let v3 := v1 == v2
  K v3
noncomputable def cs_bytes_Equal : CSpec := { ins := [(.val (.sl 5 (.int .u8)) .s), (.val (.sl 5 (.int .u8)) .s)], outs := [(.bool, .s)], fn := fun (d : (List (Int)) × (List (Int)) × Unit) K _ => p_bytes_Equal d.1 d.2.1 (fun r0 => K ((r0, ()) : Bool × Unit) ((()) : Unit)) }
theorem h_bytes_Equal : Holds Try.prog 69 cs_bytes_Equal := by
  refine holds_of (env := env_bytes_Equal) (inl := inl0) (fn := Try.f69) (code := body Try.f69.body) (rs := [(4, none)]) (lp := lp0) mixed ⟨envTyOk.ty, envTyOk.eq⟩ (fun _ _ _ h => by cases h) inl0_ok Try.func69 (by kernel_rfl) (by kernel_rfl) (by kernel_rfl) (by kernel_rfl) (by kernel_rfl) (loopsOk_none (by kernel_rfl) (by kernel_rfl)) (by kernel_rfl) ?_
  intro d R K Kp res h
  have : evC env_bytes_Equal lp0 inl0 (body Try.f69.body) (St.start cs_bytes_Equal.ins d) (retK env_bytes_Equal cs_bytes_Equal.ins cs_bytes_Equal.outs [(4, none)] cs_bytes_Equal.pan K Kp) = cs_bytes_Equal.fn d K Kp := by kernel_rfl
  rw [this]; exact h
-- f68 trammel/load.Same$5
noncomputable def gam_load_Same_5 : FuncId → List FuncId → Option CSpec
  | 60, [] => some cs_load_instrs
  | 69, [] => some cs_bytes_Equal
  | _, _ => none
noncomputable def env_load_Same_5 : Env := { ty := envTy, eq := envEq, gam := gam_load_Same_5, n := Try.f68.ntmps }
theorem gamOk_load_Same_5 : EnvFn Try.prog env_load_Same_5 := by
  intro f gs c h
  unfold env_load_Same_5 gam_load_Same_5 at h
  simp only at h
  split at h <;> first | (cases h; done) | (cases h; exact h_load_instrs) | (cases h; exact h_bytes_Equal)
noncomputable def p_load_Same_5 {R : Type} (a0 : (Int) × It6) (a1 : (Int) × It6) (K : Bool → Option R) : Option R :=
  let v1 := a0.1 == a1.1
  cond v1
  (p_load_instrs a0.2.1 a1.2.1 fun r2 =>
  cond r2
  (p_bytes_Equal a0.2.2.1 a1.2.2.1 fun r3 =>
  K r3)
  (K false))
  (K false)
noncomputable def cs_load_Same_5 : CSpec := { ins := [(.val (.pair (.int .i64) Ty17) .s), (.val (.pair (.int .i64) Ty17) .s)], outs := [(.bool, .s)], fn := fun (d : ((Int) × It6) × ((Int) × It6) × Unit) K _ => p_load_Same_5 d.1 d.2.1 (fun r0 => K ((r0, ()) : Bool × Unit) ((()) : Unit)) }
theorem h_load_Same_5 : Holds Try.prog 68 cs_load_Same_5 := by
  refine holds_of (env := env_load_Same_5) (inl := inl0) (fn := Try.f68) (code := body Try.f68.body) (rs := [(4, none)]) (lp := lp0) mixed ⟨envTyOk.ty, envTyOk.eq⟩ gamOk_load_Same_5 inl0_ok Try.func68 (by kernel_rfl) (by kernel_rfl) (by kernel_rfl) (by kernel_rfl) (by kernel_rfl) (loopsOk_none (by kernel_rfl) (by kernel_rfl)) (by kernel_rfl) ?_
  intro d R K Kp res h
  have : evC env_load_Same_5 lp0 inl0 (body Try.f68.body) (St.start cs_load_Same_5.ins d) (retK env_load_Same_5 cs_load_Same_5.ins cs_load_Same_5.outs [(4, none)] cs_load_Same_5.pan K Kp) = cs_load_Same_5.fn d K Kp := by kernel_rfl
  rw [this]; exact h
-- f71 trammel/load.Same$6
noncomputable def gam_load_Same_6 : FuncId → List FuncId → Option CSpec
  | 69, [] => some cs_bytes_Equal
  | _, _ => none
noncomputable def env_load_Same_6 : Env := { ty := envTy, eq := envEq, gam := gam_load_Same_6, n := Try.f71.ntmps }
theorem gamOk_load_Same_6 : EnvFn Try.prog env_load_Same_6 := by
  intro f gs c h
  unfold env_load_Same_6 gam_load_Same_6 at h
  simp only at h
  split at h <;> first | (cases h; done) | (cases h; exact h_bytes_Equal)
noncomputable def p_load_Same_6 {R : Type} (a0 : (List UInt8) × (List (Int)) × Unit) (a1 : (List UInt8) × (List (Int)) × Unit) (K : Bool → Option R) : Option R :=
  let v1 := a0.1 == a1.1
  cond v1
  (p_bytes_Equal a0.2.1 a1.2.1 fun r2 =>
  K r2)
  (K false)
noncomputable def cs_load_Same_6 : CSpec := { ins := [(.val (.pair .str (.pair (.sl 5 (.int .u8)) .unit)) .s), (.val (.pair .str (.pair (.sl 5 (.int .u8)) .unit)) .s)], outs := [(.bool, .s)], fn := fun (d : ((List UInt8) × (List (Int)) × Unit) × ((List UInt8) × (List (Int)) × Unit) × Unit) K _ => p_load_Same_6 d.1 d.2.1 (fun r0 => K ((r0, ()) : Bool × Unit) ((()) : Unit)) }
theorem h_load_Same_6 : Holds Try.prog 71 cs_load_Same_6 := by
  refine holds_of (env := env_load_Same_6) (inl := inl0) (fn := Try.f71) (code := body Try.f71.body) (rs := [(4, none)]) (lp := lp0) mixed ⟨envTyOk.ty, envTyOk.eq⟩ gamOk_load_Same_6 inl0_ok Try.func71 (by kernel_rfl) (by kernel_rfl) (by kernel_rfl) (by kernel_rfl) (by kernel_rfl) (loopsOk_none (by kernel_rfl) (by kernel_rfl)) (by kernel_rfl) ?_
  intro d R K Kp res h
  have : evC env_load_Same_6 lp0 inl0 (body Try.f71.body) (St.start cs_load_Same_6.ins d) (retK env_load_Same_6 cs_load_Same_6.ins cs_load_Same_6.outs [(4, none)] cs_load_Same_6.pan K Kp) = cs_load_Same_6.fn d K Kp := by kernel_rfl
  rw [this]; exact h
-- f54 slices.EqualFunc[[]trammel/api.FuncType,[]trammel/api.FuncType,trammel/api.FuncType,trammel/api.FuncType]
noncomputable def gam_slices_EqualFunc_FuncTypeg55 : FuncId → List FuncId → Option CSpec
  | 55, [] => some cs_load_Same_1
  | _, _ => none
noncomputable def fs_slices_EqualFunc_FuncTypeg55 : Nat → Bool
  | 8 => true
  | 9 => true
  | _ => false
noncomputable def env_slices_EqualFunc_FuncTypeg55 : Env := { ty := envTy, eq := envEq, gam := gam_slices_EqualFunc_FuncTypeg55, n := Try.f54.ntmps, fs := fs_slices_EqualFunc_FuncTypeg55 }
theorem gamOk_slices_EqualFunc_FuncTypeg55 : EnvFn Try.prog env_slices_EqualFunc_FuncTypeg55 := by
  intro f gs c h
  unfold env_slices_EqualFunc_FuncTypeg55 gam_slices_EqualFunc_FuncTypeg55 at h
  simp only at h
  split at h <;> first | (cases h; done) | (cases h; exact h_load_Same_1)
structure X_slices_EqualFunc_FuncTypeg55_4 where
  f1 : List ((List (Int)) × (List (Int)) × Unit)
  f15 : List ((List (Int)) × (List (Int)) × Unit)
  f16 : Int
  f17 : Int

noncomputable def B_slices_EqualFunc_FuncTypeg55_4 {R : Type} (k_ret : Bool → Option R) (k_exit_0 : Option R) (rec : X_slices_EqualFunc_FuncTypeg55_4 → Option R) (x : X_slices_EqualFunc_FuncTypeg55_4) : Option R :=
  let v1 := decide (x.f17 < x.f16)
  cond v1
  (cond (inB x.f17 (List.length x.f15))
  (let v2 := List.getD x.f15 x.f17.toNat (([] : List (Int)), (([] : List (Int)), ()))
  cond (inB x.f17 (List.length x.f1))
  (let v3 := List.getD x.f1 x.f17.toNat (([] : List (Int)), (([] : List (Int)), ()))
  p_load_Same_1 v2 v3 fun r4 =>
  let v5 := !r4
  cond v5
  (k_ret false)
  (let v6 := IntKind.i64.wrap (x.f17 + (1 : Int))
  rec ⟨x.f1, x.f15, x.f16, v6⟩)) none) none)
  (k_exit_0)
noncomputable def S_slices_EqualFunc_FuncTypeg55_4 (x : X_slices_EqualFunc_FuncTypeg55_4) : St := St.ofList [(1, (.v Ty11 .s x.f1)), (2, (.fn 55 [] [])), (15, (.v Ty11 .s x.f15)), (16, (.v (.int .i64) .s x.f16)), (17, (.v (.int .i64) .s x.f17))]
def out_slices_EqualFunc_FuncTypeg55_4 : Ex → List (Nat × Bool) | .ret => [(6, false)] | .exit 0 => [] | _ => []
noncomputable def fuel_slices_EqualFunc_FuncTypeg55_4 (x : X_slices_EqualFunc_FuncTypeg55_4) : Nat := fuel64
noncomputable def c_slices_EqualFunc_FuncTypeg55_4 : Code := match loopAt 4 (body Try.f54.body) with | some c => c | none => .skip
noncomputable def lp_slices_EqualFunc_FuncTypeg55 : Loops := fun z i R st K => match z, i with
  | false, 4 => coerce [(1, false), (2, false), (15, false), (16, false), (17, false)] st (fun st => mV Ty11 .s (st 1) fun y1 => mFn 55 [] [] (st 2) (mV Ty11 .s (st 15) fun y15 => mV (.int .i64) .s (st 16) fun y16 => mV (.int .i64) .s (st 17) fun y17 => loopN (B_slices_EqualFunc_FuncTypeg55_4 (fun e6 => K .ret (St.ofList [(6, (.v .bool .s e6))])) (K (.exit 0) (St.ofList []))) (fuel_slices_EqualFunc_FuncTypeg55_4 ⟨y1, y15, y16, y17⟩) ⟨y1, y15, y16, y17⟩))
  | _, _ => none
theorem step_slices_EqualFunc_FuncTypeg55_4 (R : Type) (K : Ex → St → Option R) (rec : St → Option R) (x : X_slices_EqualFunc_FuncTypeg55_4) : evC env_slices_EqualFunc_FuncTypeg55 lp_slices_EqualFunc_FuncTypeg55 inl0 c_slices_EqualFunc_FuncTypeg55_4 (S_slices_EqualFunc_FuncTypeg55_4 x) (fun e st => match e with | .normal => coerce [(1, false), (2, false), (15, false), (16, false), (17, false)] st rec | e => coerce (out_slices_EqualFunc_FuncTypeg55_4 e) st (K e)) = B_slices_EqualFunc_FuncTypeg55_4 (fun e6 => K .ret (St.ofList [(6, (.v .bool .s e6))])) (K (.exit 0) (St.ofList [])) (fun x => rec (S_slices_EqualFunc_FuncTypeg55_4 x)) x := by kernel_rfl
theorem ok_slices_EqualFunc_FuncTypeg55_4 : LoopOk env_slices_EqualFunc_FuncTypeg55 lp_slices_EqualFunc_FuncTypeg55 inl0 c_slices_EqualFunc_FuncTypeg55_4 := by
  refine loopOk_of (hd := [(1, false), (2, false), (15, false), (16, false), (17, false)]) (out := out_slices_EqualFunc_FuncTypeg55_4) (S := S_slices_EqualFunc_FuncTypeg55_4) (fun _ K => B_slices_EqualFunc_FuncTypeg55_4 (fun e6 => K .ret (St.ofList [(6, (.v .bool .s e6))])) (K (.exit 0) (St.ofList []))) fuel_slices_EqualFunc_FuncTypeg55_4 4 step_slices_EqualFunc_FuncTypeg55_4 (by kernel_rfl) (fun R K => fun st => mV Ty11 .s (st 1) fun y1 => mFn 55 [] [] (st 2) (mV Ty11 .s (st 15) fun y15 => mV (.int .i64) .s (st 16) fun y16 => mV (.int .i64) .s (st 17) fun y17 => loopN (B_slices_EqualFunc_FuncTypeg55_4 (fun e6 => K .ret (St.ofList [(6, (.v .bool .s e6))])) (K (.exit 0) (St.ofList []))) (fuel_slices_EqualFunc_FuncTypeg55_4 ⟨y1, y15, y16, y17⟩) ⟨y1, y15, y16, y17⟩)) (fun R st K => by kernel_rfl) ?_
  intro R K st r h
  obtain ⟨y1, hy1, h⟩ := mV_inv h
  obtain ⟨hy2, h⟩ := mFn_inv h
  obtain ⟨y15, hy15, h⟩ := mV_inv h
  obtain ⟨y16, hy16, h⟩ := mV_inv h
  obtain ⟨y17, hy17, h⟩ := mV_inv h
  exact ⟨⟨y1, y15, y16, y17⟩, only_of_list (ofList_cons hy1 (ofList_cons hy2 (ofList_cons hy15 (ofList_cons hy16 (ofList_cons hy17 rfl))))), h⟩
theorem loops_slices_EqualFunc_FuncTypeg55 : LoopsOk env_slices_EqualFunc_FuncTypeg55 lp_slices_EqualFunc_FuncTypeg55 inl0 (body Try.f54.body) := by
  refine loopsOk_of (fun c hc => ?_) (fun c hc => ?_)
  · rw [show loopsL (body Try.f54.body) = [c_slices_EqualFunc_FuncTypeg55_4] by kernel_rfl] at hc
    simp only [List.mem_cons, List.not_mem_nil, or_false] at hc
    rcases hc with rfl
    · exact ok_slices_EqualFunc_FuncTypeg55_4
  · rw [show joinsL env_slices_EqualFunc_FuncTypeg55 (body Try.f54.body) = [] by kernel_rfl] at hc; cases hc
noncomputable def p_slices_EqualFunc_FuncTypeg55 {R : Type} (a0 : List ((List (Int)) × (List (Int)) × Unit)) (a1 : List ((List (Int)) × (List (Int)) × Unit)) (K : Bool → Option R) : Option R :=
  let v1 := ((List.length a0 : Nat) : Int)
  let v2 := ((List.length a1 : Nat) : Int)
  let v3 := v1 != v2
  cond v3
  (K false)
  (let v4 := ((List.length a0 : Nat) : Int)
  loopN (B_slices_EqualFunc_FuncTypeg55_4 (fun w5 =>
  K w5) (K true)) (fuel_slices_EqualFunc_FuncTypeg55_4 ⟨a1, a0, v4, (0 : Int)⟩) ⟨a1, a0, v4, (0 : Int)⟩)
noncomputable def cs_slices_EqualFunc_FuncTypeg55 : CSpec := { ins := [(.val Ty11 .s), (.val Ty11 .s), (.fn 55)], outs := [(.bool, .s)], fn := fun (d : (List ((List (Int)) × (List (Int)) × Unit)) × (List ((List (Int)) × (List (Int)) × Unit)) × Unit × Unit) K _ => p_slices_EqualFunc_FuncTypeg55 d.1 d.2.1 (fun r0 => K ((r0, ()) : Bool × Unit) ((()) : Unit)) }
theorem h_slices_EqualFunc_FuncTypeg55 : Holds Try.prog 54 cs_slices_EqualFunc_FuncTypeg55 := by
  refine holds_of (env := env_slices_EqualFunc_FuncTypeg55) (inl := inl0) (fn := Try.f54) (code := body Try.f54.body) (rs := [(6, none)]) (lp := lp_slices_EqualFunc_FuncTypeg55) mixed ⟨envTyOk.ty, envTyOk.eq⟩ gamOk_slices_EqualFunc_FuncTypeg55 inl0_ok Try.func54 (by kernel_rfl) (by kernel_rfl) (by kernel_rfl) (by kernel_rfl) (by kernel_rfl) loops_slices_EqualFunc_FuncTypeg55 (by kernel_rfl) ?_
  intro d R K Kp res h
  have : evC env_slices_EqualFunc_FuncTypeg55 lp_slices_EqualFunc_FuncTypeg55 inl0 (body Try.f54.body) (St.start cs_slices_EqualFunc_FuncTypeg55.ins d) (retK env_slices_EqualFunc_FuncTypeg55 cs_slices_EqualFunc_FuncTypeg55.ins cs_slices_EqualFunc_FuncTypeg55.outs [(6, none)] cs_slices_EqualFunc_FuncTypeg55.pan K Kp) = cs_slices_EqualFunc_FuncTypeg55.fn d K Kp := by kernel_rfl
  rw [this]; exact h
-- f58 slices.EqualFunc[[]trammel/api.Func,[]trammel/api.Func,trammel/api.Func,trammel/api.Func]
noncomputable def gam_slices_EqualFunc_Funcg59 : FuncId → List FuncId → Option CSpec
  | 59, [] => some cs_load_Same_2
  | _, _ => none
noncomputable def fs_slices_EqualFunc_Funcg59 : Nat → Bool
  | 8 => true
  | 9 => true
  | _ => false
noncomputable def env_slices_EqualFunc_Funcg59 : Env := { ty := envTy, eq := envEq, gam := gam_slices_EqualFunc_Funcg59, n := Try.f58.ntmps, fs := fs_slices_EqualFunc_Funcg59 }
theorem gamOk_slices_EqualFunc_Funcg59 : EnvFn Try.prog env_slices_EqualFunc_Funcg59 := by
  intro f gs c h
  unfold env_slices_EqualFunc_Funcg59 gam_slices_EqualFunc_Funcg59 at h
  simp only at h
  split at h <;> first | (cases h; done) | (cases h; exact h_load_Same_2)
structure X_slices_EqualFunc_Funcg59_4 where
  f1 : List ((Int) × It4)
  f15 : List ((Int) × It4)
  f16 : Int
  f17 : Int

noncomputable def B_slices_EqualFunc_Funcg59_4 {R : Type} (k_ret : Bool → Option R) (k_exit_0 : Option R) (rec : X_slices_EqualFunc_Funcg59_4 → Option R) (x : X_slices_EqualFunc_Funcg59_4) : Option R :=
  let v1 := decide (x.f17 < x.f16)
  cond v1
  (cond (inB x.f17 (List.length x.f15))
  (let v2 := List.getD x.f15 x.f17.toNat ((0 : Int), (([] : List (Int)), (([] : List ((Int) × (Int) × (Int) × (Int) × (List (Int)) × Unit)), ())))
  cond (inB x.f17 (List.length x.f1))
  (let v3 := List.getD x.f1 x.f17.toNat ((0 : Int), (([] : List (Int)), (([] : List ((Int) × (Int) × (Int) × (Int) × (List (Int)) × Unit)), ())))
  p_load_Same_2 v2 v3 fun r4 =>
  let v5 := !r4
  cond v5
  (k_ret false)
  (let v6 := IntKind.i64.wrap (x.f17 + (1 : Int))
  rec ⟨x.f1, x.f15, x.f16, v6⟩)) none) none)
  (k_exit_0)
noncomputable def S_slices_EqualFunc_Funcg59_4 (x : X_slices_EqualFunc_Funcg59_4) : St := St.ofList [(1, (.v (.sl 120 (.pair (.int .i64) Ty14)) .s x.f1)), (2, (.fn 59 [] [])), (15, (.v (.sl 120 (.pair (.int .i64) Ty14)) .s x.f15)), (16, (.v (.int .i64) .s x.f16)), (17, (.v (.int .i64) .s x.f17))]
def out_slices_EqualFunc_Funcg59_4 : Ex → List (Nat × Bool) | .ret => [(6, false)] | .exit 0 => [] | _ => []
noncomputable def fuel_slices_EqualFunc_Funcg59_4 (x : X_slices_EqualFunc_Funcg59_4) : Nat := fuel64
noncomputable def c_slices_EqualFunc_Funcg59_4 : Code := match loopAt 4 (body Try.f58.body) with | some c => c | none => .skip
noncomputable def lp_slices_EqualFunc_Funcg59 : Loops := fun z i R st K => match z, i with
  | false, 4 => coerce [(1, false), (2, false), (15, false), (16, false), (17, false)] st (fun st => mV (.sl 120 (.pair (.int .i64) Ty14)) .s (st 1) fun y1 => mFn 59 [] [] (st 2) (mV (.sl 120 (.pair (.int .i64) Ty14)) .s (st 15) fun y15 => mV (.int .i64) .s (st 16) fun y16 => mV (.int .i64) .s (st 17) fun y17 => loopN (B_slices_EqualFunc_Funcg59_4 (fun e6 => K .ret (St.ofList [(6, (.v .bool .s e6))])) (K (.exit 0) (St.ofList []))) (fuel_slices_EqualFunc_Funcg59_4 ⟨y1, y15, y16, y17⟩) ⟨y1, y15, y16, y17⟩))
  | _, _ => none
theorem step_slices_EqualFunc_Funcg59_4 (R : Type) (K : Ex → St → Option R) (rec : St → Option R) (x : X_slices_EqualFunc_Funcg59_4) : evC env_slices_EqualFunc_Funcg59 lp_slices_EqualFunc_Funcg59 inl0 c_slices_EqualFunc_Funcg59_4 (S_slices_EqualFunc_Funcg59_4 x) (fun e st => match e with | .normal => coerce [(1, false), (2, false), (15, false), (16, false), (17, false)] st rec | e => coerce (out_slices_EqualFunc_Funcg59_4 e) st (K e)) = B_slices_EqualFunc_Funcg59_4 (fun e6 => K .ret (St.ofList [(6, (.v .bool .s e6))])) (K (.exit 0) (St.ofList [])) (fun x => rec (S_slices_EqualFunc_Funcg59_4 x)) x := by kernel_rfl
theorem ok_slices_EqualFunc_Funcg59_4 : LoopOk env_slices_EqualFunc_Funcg59 lp_slices_EqualFunc_Funcg59 inl0 c_slices_EqualFunc_Funcg59_4 := by
  refine loopOk_of (hd := [(1, false), (2, false), (15, false), (16, false), (17, false)]) (out := out_slices_EqualFunc_Funcg59_4) (S := S_slices_EqualFunc_Funcg59_4) (fun _ K => B_slices_EqualFunc_Funcg59_4 (fun e6 => K .ret (St.ofList [(6, (.v .bool .s e6))])) (K (.exit 0) (St.ofList []))) fuel_slices_EqualFunc_Funcg59_4 4 step_slices_EqualFunc_Funcg59_4 (by kernel_rfl) (fun R K => fun st => mV (.sl 120 (.pair (.int .i64) Ty14)) .s (st 1) fun y1 => mFn 59 [] [] (st 2) (mV (.sl 120 (.pair (.int .i64) Ty14)) .s (st 15) fun y15 => mV (.int .i64) .s (st 16) fun y16 => mV (.int .i64) .s (st 17) fun y17 => loopN (B_slices_EqualFunc_Funcg59_4 (fun e6 => K .ret (St.ofList [(6, (.v .bool .s e6))])) (K (.exit 0) (St.ofList []))) (fuel_slices_EqualFunc_Funcg59_4 ⟨y1, y15, y16, y17⟩) ⟨y1, y15, y16, y17⟩)) (fun R st K => by kernel_rfl) ?_
  intro R K st r h
  obtain ⟨y1, hy1, h⟩ := mV_inv h
  obtain ⟨hy2, h⟩ := mFn_inv h
  obtain ⟨y15, hy15, h⟩ := mV_inv h
  obtain ⟨y16, hy16, h⟩ := mV_inv h
  obtain ⟨y17, hy17, h⟩ := mV_inv h
  exact ⟨⟨y1, y15, y16, y17⟩, only_of_list (ofList_cons hy1 (ofList_cons hy2 (ofList_cons hy15 (ofList_cons hy16 (ofList_cons hy17 rfl))))), h⟩
theorem loops_slices_EqualFunc_Funcg59 : LoopsOk env_slices_EqualFunc_Funcg59 lp_slices_EqualFunc_Funcg59 inl0 (body Try.f58.body) := by
  refine loopsOk_of (fun c hc => ?_) (fun c hc => ?_)
  · rw [show loopsL (body Try.f58.body) = [c_slices_EqualFunc_Funcg59_4] by kernel_rfl] at hc
    simp only [List.mem_cons, List.not_mem_nil, or_false] at hc
    rcases hc with rfl
    · exact ok_slices_EqualFunc_Funcg59_4
  · rw [show joinsL env_slices_EqualFunc_Funcg59 (body Try.f58.body) = [] by kernel_rfl] at hc; cases hc
noncomputable def p_slices_EqualFunc_Funcg59 {R : Type} (a0 : List ((Int) × It4)) (a1 : List ((Int) × It4)) (K : Bool → Option R) : Option R :=
  let v1 := ((List.length a0 : Nat) : Int)
  let v2 := ((List.length a1 : Nat) : Int)
  let v3 := v1 != v2
  cond v3
  (K false)
  (let v4 := ((List.length a0 : Nat) : Int)
  loopN (B_slices_EqualFunc_Funcg59_4 (fun w5 =>
  K w5) (K true)) (fuel_slices_EqualFunc_Funcg59_4 ⟨a1, a0, v4, (0 : Int)⟩) ⟨a1, a0, v4, (0 : Int)⟩)
noncomputable def cs_slices_EqualFunc_Funcg59 : CSpec := { ins := [(.val (.sl 120 (.pair (.int .i64) Ty14)) .s), (.val (.sl 120 (.pair (.int .i64) Ty14)) .s), (.fn 59)], outs := [(.bool, .s)], fn := fun (d : (List ((Int) × It4)) × (List ((Int) × It4)) × Unit × Unit) K _ => p_slices_EqualFunc_Funcg59 d.1 d.2.1 (fun r0 => K ((r0, ()) : Bool × Unit) ((()) : Unit)) }
theorem h_slices_EqualFunc_Funcg59 : Holds Try.prog 58 cs_slices_EqualFunc_Funcg59 := by
  refine holds_of (env := env_slices_EqualFunc_Funcg59) (inl := inl0) (fn := Try.f58) (code := body Try.f58.body) (rs := [(6, none)]) (lp := lp_slices_EqualFunc_Funcg59) mixed ⟨envTyOk.ty, envTyOk.eq⟩ gamOk_slices_EqualFunc_Funcg59 inl0_ok Try.func58 (by kernel_rfl) (by kernel_rfl) (by kernel_rfl) (by kernel_rfl) (by kernel_rfl) loops_slices_EqualFunc_Funcg59 (by kernel_rfl) ?_
  intro d R K Kp res h
  have : evC env_slices_EqualFunc_Funcg59 lp_slices_EqualFunc_Funcg59 inl0 (body Try.f58.body) (St.start cs_slices_EqualFunc_Funcg59.ins d) (retK env_slices_EqualFunc_Funcg59 cs_slices_EqualFunc_Funcg59.ins cs_slices_EqualFunc_Funcg59.outs [(6, none)] cs_slices_EqualFunc_Funcg59.pan K Kp) = cs_slices_EqualFunc_Funcg59.fn d K Kp := by kernel_rfl
  rw [this]; exact h
-- f62 slices.EqualFunc[[]trammel/api.Global,[]trammel/api.Global,trammel/api.Global,trammel/api.Global]
noncomputable def gam_slices_EqualFunc_Globalg63 : FuncId → List FuncId → Option CSpec
  | 63, [] => some cs_load_Same_3
  | _, _ => none
noncomputable def fs_slices_EqualFunc_Globalg63 : Nat → Bool
  | 8 => true
  | 9 => true
  | _ => false
noncomputable def env_slices_EqualFunc_Globalg63 : Env := { ty := envTy, eq := envEq, gam := gam_slices_EqualFunc_Globalg63, n := Try.f62.ntmps, fs := fs_slices_EqualFunc_Globalg63 }
theorem gamOk_slices_EqualFunc_Globalg63 : EnvFn Try.prog env_slices_EqualFunc_Globalg63 := by
  intro f gs c h
  unfold env_slices_EqualFunc_Globalg63 gam_slices_EqualFunc_Globalg63 at h
  simp only at h
  split at h <;> first | (cases h; done) | (cases h; exact h_load_Same_3)
structure X_slices_EqualFunc_Globalg63_4 where
  f1 : List ((Int) × It5)
  f15 : List ((Int) × It5)
  f16 : Int
  f17 : Int

noncomputable def B_slices_EqualFunc_Globalg63_4 {R : Type} (k_ret : Bool → Option R) (k_exit_0 : Option R) (rec : X_slices_EqualFunc_Globalg63_4 → Option R) (x : X_slices_EqualFunc_Globalg63_4) : Option R :=
  let v1 := decide (x.f17 < x.f16)
  cond v1
  (cond (inB x.f17 (List.length x.f15))
  (let v2 := List.getD x.f15 x.f17.toNat ((0 : Int), (false, (([] : List ((Int) × (Int) × (Int) × (Int) × (List (Int)) × Unit)), ())))
  cond (inB x.f17 (List.length x.f1))
  (let v3 := List.getD x.f1 x.f17.toNat ((0 : Int), (false, (([] : List ((Int) × (Int) × (Int) × (Int) × (List (Int)) × Unit)), ())))
  p_load_Same_3 v2 v3 fun r4 =>
  let v5 := !r4
  cond v5
  (k_ret false)
  (let v6 := IntKind.i64.wrap (x.f17 + (1 : Int))
  rec ⟨x.f1, x.f15, x.f16, v6⟩)) none) none)
  (k_exit_0)
noncomputable def S_slices_EqualFunc_Globalg63_4 (x : X_slices_EqualFunc_Globalg63_4) : St := St.ofList [(1, (.v (.sl 123 (.pair (.int .i64) Ty15)) .s x.f1)), (2, (.fn 63 [] [])), (15, (.v (.sl 123 (.pair (.int .i64) Ty15)) .s x.f15)), (16, (.v (.int .i64) .s x.f16)), (17, (.v (.int .i64) .s x.f17))]
def out_slices_EqualFunc_Globalg63_4 : Ex → List (Nat × Bool) | .ret => [(6, false)] | .exit 0 => [] | _ => []
noncomputable def fuel_slices_EqualFunc_Globalg63_4 (x : X_slices_EqualFunc_Globalg63_4) : Nat := fuel64
noncomputable def c_slices_EqualFunc_Globalg63_4 : Code := match loopAt 4 (body Try.f62.body) with | some c => c | none => .skip
noncomputable def lp_slices_EqualFunc_Globalg63 : Loops := fun z i R st K => match z, i with
  | false, 4 => coerce [(1, false), (2, false), (15, false), (16, false), (17, false)] st (fun st => mV (.sl 123 (.pair (.int .i64) Ty15)) .s (st 1) fun y1 => mFn 63 [] [] (st 2) (mV (.sl 123 (.pair (.int .i64) Ty15)) .s (st 15) fun y15 => mV (.int .i64) .s (st 16) fun y16 => mV (.int .i64) .s (st 17) fun y17 => loopN (B_slices_EqualFunc_Globalg63_4 (fun e6 => K .ret (St.ofList [(6, (.v .bool .s e6))])) (K (.exit 0) (St.ofList []))) (fuel_slices_EqualFunc_Globalg63_4 ⟨y1, y15, y16, y17⟩) ⟨y1, y15, y16, y17⟩))
  | _, _ => none
theorem step_slices_EqualFunc_Globalg63_4 (R : Type) (K : Ex → St → Option R) (rec : St → Option R) (x : X_slices_EqualFunc_Globalg63_4) : evC env_slices_EqualFunc_Globalg63 lp_slices_EqualFunc_Globalg63 inl0 c_slices_EqualFunc_Globalg63_4 (S_slices_EqualFunc_Globalg63_4 x) (fun e st => match e with | .normal => coerce [(1, false), (2, false), (15, false), (16, false), (17, false)] st rec | e => coerce (out_slices_EqualFunc_Globalg63_4 e) st (K e)) = B_slices_EqualFunc_Globalg63_4 (fun e6 => K .ret (St.ofList [(6, (.v .bool .s e6))])) (K (.exit 0) (St.ofList [])) (fun x => rec (S_slices_EqualFunc_Globalg63_4 x)) x := by kernel_rfl
theorem ok_slices_EqualFunc_Globalg63_4 : LoopOk env_slices_EqualFunc_Globalg63 lp_slices_EqualFunc_Globalg63 inl0 c_slices_EqualFunc_Globalg63_4 := by
  refine loopOk_of (hd := [(1, false), (2, false), (15, false), (16, false), (17, false)]) (out := out_slices_EqualFunc_Globalg63_4) (S := S_slices_EqualFunc_Globalg63_4) (fun _ K => B_slices_EqualFunc_Globalg63_4 (fun e6 => K .ret (St.ofList [(6, (.v .bool .s e6))])) (K (.exit 0) (St.ofList []))) fuel_slices_EqualFunc_Globalg63_4 4 step_slices_EqualFunc_Globalg63_4 (by kernel_rfl) (fun R K => fun st => mV (.sl 123 (.pair (.int .i64) Ty15)) .s (st 1) fun y1 => mFn 63 [] [] (st 2) (mV (.sl 123 (.pair (.int .i64) Ty15)) .s (st 15) fun y15 => mV (.int .i64) .s (st 16) fun y16 => mV (.int .i64) .s (st 17) fun y17 => loopN (B_slices_EqualFunc_Globalg63_4 (fun e6 => K .ret (St.ofList [(6, (.v .bool .s e6))])) (K (.exit 0) (St.ofList []))) (fuel_slices_EqualFunc_Globalg63_4 ⟨y1, y15, y16, y17⟩) ⟨y1, y15, y16, y17⟩)) (fun R st K => by kernel_rfl) ?_
  intro R K st r h
  obtain ⟨y1, hy1, h⟩ := mV_inv h
  obtain ⟨hy2, h⟩ := mFn_inv h
  obtain ⟨y15, hy15, h⟩ := mV_inv h
  obtain ⟨y16, hy16, h⟩ := mV_inv h
  obtain ⟨y17, hy17, h⟩ := mV_inv h
  exact ⟨⟨y1, y15, y16, y17⟩, only_of_list (ofList_cons hy1 (ofList_cons hy2 (ofList_cons hy15 (ofList_cons hy16 (ofList_cons hy17 rfl))))), h⟩
theorem loops_slices_EqualFunc_Globalg63 : LoopsOk env_slices_EqualFunc_Globalg63 lp_slices_EqualFunc_Globalg63 inl0 (body Try.f62.body) := by
  refine loopsOk_of (fun c hc => ?_) (fun c hc => ?_)
  · rw [show loopsL (body Try.f62.body) = [c_slices_EqualFunc_Globalg63_4] by kernel_rfl] at hc
    simp only [List.mem_cons, List.not_mem_nil, or_false] at hc
    rcases hc with rfl
    · exact ok_slices_EqualFunc_Globalg63_4
  · rw [show joinsL env_slices_EqualFunc_Globalg63 (body Try.f62.body) = [] by kernel_rfl] at hc; cases hc
noncomputable def p_slices_EqualFunc_Globalg63 {R : Type} (a0 : List ((Int) × It5)) (a1 : List ((Int) × It5)) (K : Bool → Option R) : Option R :=
  let v1 := ((List.length a0 : Nat) : Int)
  let v2 := ((List.length a1 : Nat) : Int)
  let v3 := v1 != v2
  cond v3
  (K false)
  (let v4 := ((List.length a0 : Nat) : Int)
  loopN (B_slices_EqualFunc_Globalg63_4 (fun w5 =>
  K w5) (K true)) (fuel_slices_EqualFunc_Globalg63_4 ⟨a1, a0, v4, (0 : Int)⟩) ⟨a1, a0, v4, (0 : Int)⟩)
noncomputable def cs_slices_EqualFunc_Globalg63 : CSpec := { ins := [(.val (.sl 123 (.pair (.int .i64) Ty15)) .s), (.val (.sl 123 (.pair (.int .i64) Ty15)) .s), (.fn 63)], outs := [(.bool, .s)], fn := fun (d : (List ((Int) × It5)) × (List ((Int) × It5)) × Unit × Unit) K _ => p_slices_EqualFunc_Globalg63 d.1 d.2.1 (fun r0 => K ((r0, ()) : Bool × Unit) ((()) : Unit)) }
theorem h_slices_EqualFunc_Globalg63 : Holds Try.prog 62 cs_slices_EqualFunc_Globalg63 := by
  refine holds_of (env := env_slices_EqualFunc_Globalg63) (inl := inl0) (fn := Try.f62) (code := body Try.f62.body) (rs := [(6, none)]) (lp := lp_slices_EqualFunc_Globalg63) mixed ⟨envTyOk.ty, envTyOk.eq⟩ gamOk_slices_EqualFunc_Globalg63 inl0_ok Try.func62 (by kernel_rfl) (by kernel_rfl) (by kernel_rfl) (by kernel_rfl) (by kernel_rfl) loops_slices_EqualFunc_Globalg63 (by kernel_rfl) ?_
  intro d R K Kp res h
  have : evC env_slices_EqualFunc_Globalg63 lp_slices_EqualFunc_Globalg63 inl0 (body Try.f62.body) (St.start cs_slices_EqualFunc_Globalg63.ins d) (retK env_slices_EqualFunc_Globalg63 cs_slices_EqualFunc_Globalg63.ins cs_slices_EqualFunc_Globalg63.outs [(6, none)] cs_slices_EqualFunc_Globalg63.pan K Kp) = cs_slices_EqualFunc_Globalg63.fn d K Kp := by kernel_rfl
  rw [this]; exact h
-- f65 slices.EqualFunc[[]trammel/api.Elem,[]trammel/api.Elem,trammel/api.Elem,trammel/api.Elem]
noncomputable def gam_slices_EqualFunc_Elemg66 : FuncId → List FuncId → Option CSpec
  | 66, [] => some cs_load_Same_4
  | _, _ => none
noncomputable def fs_slices_EqualFunc_Elemg66 : Nat → Bool
  | 8 => true
  | 9 => true
  | _ => false
noncomputable def env_slices_EqualFunc_Elemg66 : Env := { ty := envTy, eq := envEq, gam := gam_slices_EqualFunc_Elemg66, n := Try.f65.ntmps, fs := fs_slices_EqualFunc_Elemg66 }
theorem gamOk_slices_EqualFunc_Elemg66 : EnvFn Try.prog env_slices_EqualFunc_Elemg66 := by
  intro f gs c h
  unfold env_slices_EqualFunc_Elemg66 gam_slices_EqualFunc_Elemg66 at h
  simp only at h
  split at h <;> first | (cases h; done) | (cases h; exact h_load_Same_4)
structure X_slices_EqualFunc_Elemg66_4 where
  f1 : List ((Int) × It6)
  f15 : List ((Int) × It6)
  f16 : Int
  f17 : Int

noncomputable def B_slices_EqualFunc_Elemg66_4 {R : Type} (k_ret : Bool → Option R) (k_exit_0 : Option R) (rec : X_slices_EqualFunc_Elemg66_4 → Option R) (x : X_slices_EqualFunc_Elemg66_4) : Option R :=
  let v1 := decide (x.f17 < x.f16)
  cond v1
  (cond (inB x.f17 (List.length x.f15))
  (let v2 := List.getD x.f15 x.f17.toNat ((0 : Int), (([] : List ((Int) × (Int) × (Int) × (Int) × (List (Int)) × Unit)), (([] : List (Int)), ())))
  cond (inB x.f17 (List.length x.f1))
  (let v3 := List.getD x.f1 x.f17.toNat ((0 : Int), (([] : List ((Int) × (Int) × (Int) × (Int) × (List (Int)) × Unit)), (([] : List (Int)), ())))
  p_load_Same_4 v2 v3 fun r4 =>
  let v5 := !r4
  cond v5
  (k_ret false)
  (let v6 := IntKind.i64.wrap (x.f17 + (1 : Int))
  rec ⟨x.f1, x.f15, x.f16, v6⟩)) none) none)
  (k_exit_0)
noncomputable def S_slices_EqualFunc_Elemg66_4 (x : X_slices_EqualFunc_Elemg66_4) : St := St.ofList [(1, (.v (.sl 127 (.pair (.int .i64) Ty16)) .s x.f1)), (2, (.fn 66 [] [])), (15, (.v (.sl 127 (.pair (.int .i64) Ty16)) .s x.f15)), (16, (.v (.int .i64) .s x.f16)), (17, (.v (.int .i64) .s x.f17))]
def out_slices_EqualFunc_Elemg66_4 : Ex → List (Nat × Bool) | .ret => [(6, false)] | .exit 0 => [] | _ => []
noncomputable def fuel_slices_EqualFunc_Elemg66_4 (x : X_slices_EqualFunc_Elemg66_4) : Nat := fuel64
noncomputable def c_slices_EqualFunc_Elemg66_4 : Code := match loopAt 4 (body Try.f65.body) with | some c => c | none => .skip
noncomputable def lp_slices_EqualFunc_Elemg66 : Loops := fun z i R st K => match z, i with
  | false, 4 => coerce [(1, false), (2, false), (15, false), (16, false), (17, false)] st (fun st => mV (.sl 127 (.pair (.int .i64) Ty16)) .s (st 1) fun y1 => mFn 66 [] [] (st 2) (mV (.sl 127 (.pair (.int .i64) Ty16)) .s (st 15) fun y15 => mV (.int .i64) .s (st 16) fun y16 => mV (.int .i64) .s (st 17) fun y17 => loopN (B_slices_EqualFunc_Elemg66_4 (fun e6 => K .ret (St.ofList [(6, (.v .bool .s e6))])) (K (.exit 0) (St.ofList []))) (fuel_slices_EqualFunc_Elemg66_4 ⟨y1, y15, y16, y17⟩) ⟨y1, y15, y16, y17⟩))
  | _, _ => none
theorem step_slices_EqualFunc_Elemg66_4 (R : Type) (K : Ex → St → Option R) (rec : St → Option R) (x : X_slices_EqualFunc_Elemg66_4) : evC env_slices_EqualFunc_Elemg66 lp_slices_EqualFunc_Elemg66 inl0 c_slices_EqualFunc_Elemg66_4 (S_slices_EqualFunc_Elemg66_4 x) (fun e st => match e with | .normal => coerce [(1, false), (2, false), (15, false), (16, false), (17, false)] st rec | e => coerce (out_slices_EqualFunc_Elemg66_4 e) st (K e)) = B_slices_EqualFunc_Elemg66_4 (fun e6 => K .ret (St.ofList [(6, (.v .bool .s e6))])) (K (.exit 0) (St.ofList [])) (fun x => rec (S_slices_EqualFunc_Elemg66_4 x)) x := by kernel_rfl
theorem ok_slices_EqualFunc_Elemg66_4 : LoopOk env_slices_EqualFunc_Elemg66 lp_slices_EqualFunc_Elemg66 inl0 c_slices_EqualFunc_Elemg66_4 := by
  refine loopOk_of (hd := [(1, false), (2, false), (15, false), (16, false), (17, false)]) (out := out_slices_EqualFunc_Elemg66_4) (S := S_slices_EqualFunc_Elemg66_4) (fun _ K => B_slices_EqualFunc_Elemg66_4 (fun e6 => K .ret (St.ofList [(6, (.v .bool .s e6))])) (K (.exit 0) (St.ofList []))) fuel_slices_EqualFunc_Elemg66_4 4 step_slices_EqualFunc_Elemg66_4 (by kernel_rfl) (fun R K => fun st => mV (.sl 127 (.pair (.int .i64) Ty16)) .s (st 1) fun y1 => mFn 66 [] [] (st 2) (mV (.sl 127 (.pair (.int .i64) Ty16)) .s (st 15) fun y15 => mV (.int .i64) .s (st 16) fun y16 => mV (.int .i64) .s (st 17) fun y17 => loopN (B_slices_EqualFunc_Elemg66_4 (fun e6 => K .ret (St.ofList [(6, (.v .bool .s e6))])) (K (.exit 0) (St.ofList []))) (fuel_slices_EqualFunc_Elemg66_4 ⟨y1, y15, y16, y17⟩) ⟨y1, y15, y16, y17⟩)) (fun R st K => by kernel_rfl) ?_
  intro R K st r h
  obtain ⟨y1, hy1, h⟩ := mV_inv h
  obtain ⟨hy2, h⟩ := mFn_inv h
  obtain ⟨y15, hy15, h⟩ := mV_inv h
  obtain ⟨y16, hy16, h⟩ := mV_inv h
  obtain ⟨y17, hy17, h⟩ := mV_inv h
  exact ⟨⟨y1, y15, y16, y17⟩, only_of_list (ofList_cons hy1 (ofList_cons hy2 (ofList_cons hy15 (ofList_cons hy16 (ofList_cons hy17 rfl))))), h⟩
theorem loops_slices_EqualFunc_Elemg66 : LoopsOk env_slices_EqualFunc_Elemg66 lp_slices_EqualFunc_Elemg66 inl0 (body Try.f65.body) := by
  refine loopsOk_of (fun c hc => ?_) (fun c hc => ?_)
  · rw [show loopsL (body Try.f65.body) = [c_slices_EqualFunc_Elemg66_4] by kernel_rfl] at hc
    simp only [List.mem_cons, List.not_mem_nil, or_false] at hc
    rcases hc with rfl
    · exact ok_slices_EqualFunc_Elemg66_4
  · rw [show joinsL env_slices_EqualFunc_Elemg66 (body Try.f65.body) = [] by kernel_rfl] at hc; cases hc
noncomputable def p_slices_EqualFunc_Elemg66 {R : Type} (a0 : List ((Int) × It6)) (a1 : List ((Int) × It6)) (K : Bool → Option R) : Option R :=
  let v1 := ((List.length a0 : Nat) : Int)
  let v2 := ((List.length a1 : Nat) : Int)
  let v3 := v1 != v2
  cond v3
  (K false)
  (let v4 := ((List.length a0 : Nat) : Int)
  loopN (B_slices_EqualFunc_Elemg66_4 (fun w5 =>
  K w5) (K true)) (fuel_slices_EqualFunc_Elemg66_4 ⟨a1, a0, v4, (0 : Int)⟩) ⟨a1, a0, v4, (0 : Int)⟩)
noncomputable def cs_slices_EqualFunc_Elemg66 : CSpec := { ins := [(.val (.sl 127 (.pair (.int .i64) Ty16)) .s), (.val (.sl 127 (.pair (.int .i64) Ty16)) .s), (.fn 66)], outs := [(.bool, .s)], fn := fun (d : (List ((Int) × It6)) × (List ((Int) × It6)) × Unit × Unit) K _ => p_slices_EqualFunc_Elemg66 d.1 d.2.1 (fun r0 => K ((r0, ()) : Bool × Unit) ((()) : Unit)) }
theorem h_slices_EqualFunc_Elemg66 : Holds Try.prog 65 cs_slices_EqualFunc_Elemg66 := by
  refine holds_of (env := env_slices_EqualFunc_Elemg66) (inl := inl0) (fn := Try.f65) (code := body Try.f65.body) (rs := [(6, none)]) (lp := lp_slices_EqualFunc_Elemg66) mixed ⟨envTyOk.ty, envTyOk.eq⟩ gamOk_slices_EqualFunc_Elemg66 inl0_ok Try.func65 (by kernel_rfl) (by kernel_rfl) (by kernel_rfl) (by kernel_rfl) (by kernel_rfl) loops_slices_EqualFunc_Elemg66 (by kernel_rfl) ?_
  intro d R K Kp res h
  have : evC env_slices_EqualFunc_Elemg66 lp_slices_EqualFunc_Elemg66 inl0 (body Try.f65.body) (St.start cs_slices_EqualFunc_Elemg66.ins d) (retK env_slices_EqualFunc_Elemg66 cs_slices_EqualFunc_Elemg66.ins cs_slices_EqualFunc_Elemg66.outs [(6, none)] cs_slices_EqualFunc_Elemg66.pan K Kp) = cs_slices_EqualFunc_Elemg66.fn d K Kp := by kernel_rfl
  rw [this]; exact h
end Go.Trm.G1
