import Derived.Test.YtiooemenojlbjaaGreatTrmHand
import Derived.Test.YtiooemenojlbjaaGreatProg
import Derived.KernelRfl
set_option linter.unusedVariables false
set_option linter.unusedSimpArgs false
namespace Go.Trm.G1
open Go.Proofs
set_option maxRecDepth 100000
abbrev It0 : Type := (List UInt8) × (Int) × (Int) × ((Int) × (Bool) × (Int) × Unit) × (Bool) × Unit
abbrev It1 : Type := (List (Int)) × (List ((Int) × (Int) × (Int) × (Int) × (List (Int)) × Unit)) × Unit
abbrev It2 : Type := (Bool) × (List ((Int) × (Int) × (Int) × (Int) × (List (Int)) × Unit)) × Unit
abbrev It3 : Type := (List ((Int) × (Int) × (Int) × (Int) × (List (Int)) × Unit)) × (List (Int)) × Unit
abbrev It4 : Type := (List ((Int) × It3)) × (List ((List UInt8) × (List (Int)) × Unit)) × Unit
abbrev It5 : Type := (List ((List UInt8) × (Int) × (Int) × Unit)) × (List (Int)) × (List ((Int) × It3)) × (List (Int)) × It4
abbrev It6 : Type := (List ((Int) × (Bool) × (Int) × Unit)) × (List ((Int) × (Bool) × (Int) × Unit)) × (List ((Int) × It2)) × It5
abbrev It7 : Type := (List ((List (Int)) × (List (Int)) × Unit)) × (List ((List UInt8) × It0)) × (List ((Int) × It1)) × It6
abbrev Ty8 : Ty := (.sl 55 (.pair (.sl 3 (.int .i64)) (.pair (.sl 3 (.int .i64)) .unit)))
abbrev Ty9 : Ty := (.pair (.pair (.int .i64) (.pair .bool (.pair (.int .i64) .unit))) (.pair .bool .unit))
abbrev Ty10 : Ty := (.sl 60 (.pair .str (.pair .str (.pair (.int .i64) (.pair (.int .i64) Ty9)))))
abbrev Ty11 : Ty := (.pair (.int .i64) (.pair (.int .i64) (.pair (.sl 3 (.int .i64)) .unit)))
abbrev Ty12 : Ty := (.pair (.sl 3 (.int .i64)) (.pair (.sl 118 (.pair (.int .i64) (.pair (.int .i64) Ty11))) .unit))
abbrev Ty13 : Ty := (.pair .bool (.pair (.sl 118 (.pair (.int .i64) (.pair (.int .i64) Ty11))) .unit))
abbrev Ty14 : Ty := (.pair (.sl 118 (.pair (.int .i64) (.pair (.int .i64) Ty11))) (.pair (.sl 3 (.int .i64)) .unit))
abbrev Ty15 : Ty := (.pair (.sl 118 (.pair (.int .i64) (.pair (.int .i64) Ty11))) (.pair (.sl 5 (.int .u8)) .unit))
abbrev Ty16 : Ty := (.pair (.sl 72 (.pair (.int .i64) Ty15)) (.pair (.sl 74 (.pair .str (.pair (.sl 5 (.int .u8)) .unit))) .unit))
abbrev Ty17 : Ty := (.pair (.sl 70 (.pair (.int .i64) Ty14)) (.pair (.sl 3 (.int .i64)) Ty16))
abbrev Ty18 : Ty := (.pair (.sl 68 (.pair .str (.pair (.int .i64) (.pair (.int .i64) .unit)))) (.pair (.sl 3 (.int .i64)) Ty17))
abbrev Ty19 : Ty := (.pair (.sl 58 (.pair (.int .i64) (.pair .bool (.pair (.int .i64) .unit)))) (.pair (.sl 66 (.pair (.int .i64) Ty13)) Ty18))
abbrev Ty20 : Ty := (.pair (.sl 58 (.pair (.int .i64) (.pair .bool (.pair (.int .i64) .unit)))) Ty19)
abbrev Ty21 : Ty := (.pair Ty8 (.pair Ty10 (.pair (.sl 63 (.pair (.int .i64) Ty12)) Ty20)))
abbrev It22 : Type := (List ((Int) × (Bool) × (Int) × Unit)) × (Int) × (Int) × (Int) × (Int) × (Bool) × Unit
abbrev It23 : Type := (List ((Int) × (Bool) × Unit)) × (List ((Int) × (Bool) × (Int) × Unit)) × It22
abbrev It24 : Type := ((List ((List (Int)) × (List (Int)) × Unit)) × (List (Int)) × It23) × (Int) × Unit
abbrev Ty25 : Ty := (.pair (.int .i64) (.pair (.int .i64) (.pair (.int .i64) (.pair .bool .unit))))
abbrev Ty26 : Ty := (.pair (.sl 58 (.pair (.int .i64) (.pair .bool (.pair (.int .i64) .unit)))) (.pair (.int .i64) Ty25))
abbrev Ty27 : Ty := (.pair (.sl 58 (.pair (.int .i64) (.pair .bool (.pair (.int .i64) .unit)))) Ty26)
abbrev Ty28 : Ty := (.pair (.sl 3 (.int .i64)) (.pair (.sl 145 (.pair (.int .i64) (.pair .bool .unit))) Ty27))
abbrev Ty29 : Ty := (.ptr 60 (.pair .str (.pair .str (.pair (.int .i64) (.pair (.int .i64) Ty9)))))
abbrev Ty30 : Ty := (.pair (.int .i64) (.pair (.int .i64) (.pair .bool (.pair (.int .u8) .unit))))
abbrev Ty31 : Ty := (.pair (.sl 3 (.int .i64)) (.pair (.sl 3 (.int .i64)) (.pair (.int .i64) (.pair .bool .unit))))
abbrev Ty32 : Ty := (.pair (.sl 3 (.int .i64)) (.pair (.sl 186 (.pair (.int .i64) Ty31)) .unit))
abbrev Ty33 : Ty := (.pair (.sl 5 (.int .u8)) (.pair (.int .i64) (.pair (.int .i64) .unit)))
noncomputable def envTy : TypeId → Option Ty
  | 2 => some (.int .i64)
  | 3 => some (.int .i64)
  | 4 => some .bool
  | 5 => some (.int .u8)
  | 6 => some (.int .u8)
  | 7 => some Ty30
  | 8 => some Ty30
  | 9 => some .str
  | 10 => some .str
  | 11 => some .str
  | 12 => some (.int .u64)
  | 13 => some (.pair .str (.pair (.int .u64) .unit))
  | 14 => some (.pair .str (.pair (.int .u64) .unit))
  | 21 => some (.int .i32)
  | 22 => some (.sl 5 (.int .u8))
  | 25 => some Ty8
  | 26 => some Ty10
  | 27 => some (.sl 63 (.pair (.int .i64) Ty12))
  | 28 => some (.sl 58 (.pair (.int .i64) (.pair .bool (.pair (.int .i64) .unit))))
  | 29 => some (.sl 66 (.pair (.int .i64) Ty13))
  | 30 => some (.sl 68 (.pair .str (.pair (.int .i64) (.pair (.int .i64) .unit))))
  | 31 => some (.sl 3 (.int .i64))
  | 32 => some (.sl 70 (.pair (.int .i64) Ty14))
  | 33 => some (.sl 72 (.pair (.int .i64) Ty15))
  | 34 => some (.sl 74 (.pair .str (.pair (.sl 5 (.int .u8)) .unit)))
  | 35 => some Ty21
  | 36 => some Ty21
  | 37 => some (.sl 145 (.pair (.int .i64) (.pair .bool .unit)))
  | 38 => some (.pair Ty8 Ty28)
  | 39 => some (.pair Ty8 Ty28)
  | 40 => some (.int .i64)
  | 54 => some (.pair (.sl 3 (.int .i64)) (.pair (.sl 3 (.int .i64)) .unit))
  | 55 => some (.pair (.sl 3 (.int .i64)) (.pair (.sl 3 (.int .i64)) .unit))
  | 57 => some (.pair (.int .i64) (.pair .bool (.pair (.int .i64) .unit)))
  | 58 => some (.pair (.int .i64) (.pair .bool (.pair (.int .i64) .unit)))
  | 59 => some (.pair .str (.pair .str (.pair (.int .i64) (.pair (.int .i64) Ty9))))
  | 60 => some (.pair .str (.pair .str (.pair (.int .i64) (.pair (.int .i64) Ty9))))
  | 61 => some (.sl 118 (.pair (.int .i64) (.pair (.int .i64) Ty11)))
  | 62 => some (.pair (.int .i64) Ty12)
  | 63 => some (.pair (.int .i64) Ty12)
  | 65 => some (.pair (.int .i64) Ty13)
  | 66 => some (.pair (.int .i64) Ty13)
  | 67 => some (.pair .str (.pair (.int .i64) (.pair (.int .i64) .unit)))
  | 68 => some (.pair .str (.pair (.int .i64) (.pair (.int .i64) .unit)))
  | 69 => some (.pair (.int .i64) Ty14)
  | 70 => some (.pair (.int .i64) Ty14)
  | 71 => some (.pair (.int .i64) Ty15)
  | 72 => some (.pair (.int .i64) Ty15)
  | 73 => some (.pair .str (.pair (.sl 5 (.int .u8)) .unit))
  | 74 => some (.pair .str (.pair (.sl 5 (.int .u8)) .unit))
  | 93 => some (.sl 97 (.pair (.int .i64) (.pair (.sl 5 (.int .u8)) .unit)))
  | 96 => some (.pair (.int .i64) (.pair (.sl 5 (.int .u8)) .unit))
  | 97 => some (.pair (.int .i64) (.pair (.sl 5 (.int .u8)) .unit))
  | 100 => some (.ptr 102 (.pair (.sl 5 (.int .u8)) (.pair (.int .i64) .unit)))
  | 101 => some (.pair (.sl 5 (.int .u8)) (.pair (.int .i64) .unit))
  | 102 => some (.pair (.sl 5 (.int .u8)) (.pair (.int .i64) .unit))
  | 104 => some (.ptr 36 Ty21)
  | 105 => some (.ptr 107 (.pair (.pair Ty8 Ty28) (.pair (.int .i64) .unit)))
  | 106 => some (.pair (.pair Ty8 Ty28) (.pair (.int .i64) .unit))
  | 107 => some (.pair (.pair Ty8 Ty28) (.pair (.int .i64) .unit))
  | 117 => some (.pair (.int .i64) (.pair (.int .i64) Ty11))
  | 118 => some (.pair (.int .i64) (.pair (.int .i64) Ty11))
  | 122 => some (.pair (.int .i64) .unit)
  | 123 => some (.pair (.int .i64) .unit)
  | 125 => some (.int .u64)
  | 140 => some (.ptr 63 (.pair (.int .i64) Ty12))
  | 144 => some (.pair (.int .i64) (.pair .bool .unit))
  | 145 => some (.pair (.int .i64) (.pair .bool .unit))
  | 152 => some (.ptr 156 (.pair (.pair Ty8 Ty28) (.pair (.sl 3 (.int .i64)) Ty32)))
  | 154 => some (.sl 186 (.pair (.int .i64) Ty31))
  | 155 => some (.pair (.pair Ty8 Ty28) (.pair (.sl 3 (.int .i64)) Ty32))
  | 156 => some (.pair (.pair Ty8 Ty28) (.pair (.sl 3 (.int .i64)) Ty32))
  | 159 => some (.ptr 123 (.pair (.int .i64) .unit))
  | 163 => some (.int .u64)
  | 177 => some (.sl 4 .bool)
  | 178 => some (.pair (.sl 4 .bool) .unit)
  | 179 => some (.pair (.sl 4 .bool) .unit)
  | 183 => some (.sl 31 (.sl 3 (.int .i64)))
  | 185 => some (.pair (.int .i64) Ty31)
  | 186 => some (.pair (.int .i64) Ty31)
  | 204 => some (.ptr 179 (.pair (.sl 4 .bool) .unit))
  | 211 => some (.ptr 213 Ty33)
  | 212 => some Ty33
  | 213 => some Ty33
  | 217 => some (.ptr 186 (.pair (.int .i64) Ty31))
  | 229 => some (.int .u32)
  | 230 => some (.int .u8)
  | 231 => some (.int .u8)
  | 233 => some (.ptr 5 (.int .u8))
  | 234 => some (.int .i32)
  | 235 => some (.int .i32)
  | _ => none
noncomputable def envEq : TypeId → Bool
  | 58 => true
  | 60 => true
  | 68 => true
  | _ => false
noncomputable def noG : FuncId → List FuncId → Option CSpec := fun _ _ => none
theorem envTyOk : EnvTy Tryz.prog { ty := envTy, gam := fun _ _ => none, n := 0, eq := envEq } := by
  refine ⟨fun T t h => ?_, fun T t h1 h2 => ?_⟩
  · unfold envTy at h
    simp only at h
    split at h <;> first | (cases h; done) | (simp only [Option.some.injEq] at h; subst h; kernel_rfl)
  · unfold envEq at h1
    simp only at h1
    first | (cases h1; done) | (split at h1 <;> first | (cases h1; done) | (simp only [envTy, Option.some.injEq] at h2; subst h2; kernel_rfl))
theorem mixed : Tryz.prog.follows .mixedOrders = true := by kernel_rfl
noncomputable def body (o : Option Code) : Code := match o with | some c => c | none => .skip
noncomputable def lp0 : Loops := fun _ _ _ _ _ => none
noncomputable def loopAt (id : Nat) : Code → Option Code
  | .loop c => match firstId c with
    | some i => match Nat.beq i id with
      | true => some c
      | false => loopAt id c
    | none => loopAt id c
  | .seq a b => match loopAt id a with
    | some c => some c
    | none => loopAt id b
  | .cond _ a b => match loopAt id a with
    | some c => some c
    | none => loopAt id b
  | .block _ c => loopAt id c
  | .scope c => loopAt id c
  | _ => none
noncomputable def joinC (id : Nat) : Code → Option Code
  | .seq a b => match firstId b with
    | some i => match Nat.beq i id with
      | true => some a
      | false => match joinC id a with
        | some c => some c
        | none => joinC id b
    | none => match joinC id a with
      | some c => some c
      | none => joinC id b
  | .cond _ a b => match joinC id a with
    | some c => some c
    | none => joinC id b
  | .block _ c => joinC id c
  | .scope c => joinC id c
  | .loop c => joinC id c
  | _ => none

-- f57 trammel/sect.magic
noncomputable def env_sect_magic : Env := { ty := envTy, eq := envEq, gam := noG, n := Tryz.f57.ntmps }
noncomputable def p_sect_magic {R : Type}  (K : (List (Int)) → Option R) : Option R :=
  let v1 := List.set (List.set (List.set (List.set (List.set (List.set (List.set (List.set (List.replicate 8 (0 : Int)) 0 (0 : Int)) 1 (97 : Int)) 2 (115 : Int)) 3 (109 : Int)) 4 (1 : Int)) 5 (0 : Int)) 6 (0 : Int)) 7 (0 : Int)
  K v1
noncomputable def cs_sect_magic : CSpec := { ins := [], outs := [((.sl 5 (.int .u8)), (.o .s))], fn := fun (d : Unit) K _ => p_sect_magic  (fun r0 => K ((r0, ()) : (List (Int)) × Unit) ((()) : Unit)) }
theorem h_sect_magic : Holds Tryz.prog 57 cs_sect_magic := by
  refine holds_of (env := env_sect_magic) (inl := inl0) (fn := Tryz.f57) (code := body Tryz.f57.body) (rs := [(0, none)]) (lp := lp0) mixed ⟨envTyOk.ty, envTyOk.eq⟩ (fun _ _ _ h => by cases h) inl0_ok Tryz.func57 (by kernel_rfl) (by kernel_rfl) (by kernel_rfl) (by kernel_rfl) (by kernel_rfl) (loopsOk_none (by kernel_rfl) (by kernel_rfl)) (by kernel_rfl) ?_
  intro d R K Kp res h
  have : evC env_sect_magic lp0 inl0 (body Tryz.f57.body) (St.start cs_sect_magic.ins d) (retK env_sect_magic cs_sect_magic.ins cs_sect_magic.outs [(0, none)] cs_sect_magic.pan K Kp) = cs_sect_magic.fn d K Kp := by kernel_rfl
  rw [this]; exact h
-- f116 slices.Index[[]int,int]
noncomputable def env_slices_IndexInt : Env := { ty := envTy, eq := envEq, gam := noG, n := Tryz.f116.ntmps }
structure X_slices_IndexInt_2 where
  f0 : List (Int)
  f1 : Int
  f7 : Int
  f8 : Int

noncomputable def B_slices_IndexInt_2 {R : Type} (k_ret : Int → Option R) (k_exit_0 : Option R) (rec : X_slices_IndexInt_2 → Option R) (x : X_slices_IndexInt_2) : Option R :=
  let v1 := decide (x.f8 < x.f7)
  cond v1
  (cond (inB x.f8 (List.length x.f0))
  (let v2 := List.getD x.f0 x.f8.toNat (0 : Int)
  let v3 := x.f1 == v2
  cond v3
  (k_ret x.f8)
  (let v4 := IntKind.i64.wrap (x.f8 + (1 : Int))
  rec ⟨x.f0, x.f1, x.f7, v4⟩)) none)
  (k_exit_0)
noncomputable def S_slices_IndexInt_2 (x : X_slices_IndexInt_2) : St := St.ofList [(0, (.v (.sl 3 (.int .i64)) .s x.f0)), (1, (.v (.int .i64) .s x.f1)), (7, (.v (.int .i64) .s x.f7)), (8, (.v (.int .i64) .s x.f8))]
def out_slices_IndexInt_2 : Ex → List (Nat × Bool) | .ret => [(4, false)] | .exit 0 => [] | _ => []
noncomputable def fuel_slices_IndexInt_2 (x : X_slices_IndexInt_2) : Nat := fuel64
noncomputable def c_slices_IndexInt_2 : Code := match loopAt 2 (body Tryz.f116.body) with | some c => c | none => .skip
noncomputable def lp_slices_IndexInt : Loops := fun z i R st K => match z, i with
  | false, 2 => coerce [(0, false), (1, false), (7, false), (8, false)] st (fun st => mV (.sl 3 (.int .i64)) .s (st 0) fun y0 => mV (.int .i64) .s (st 1) fun y1 => mV (.int .i64) .s (st 7) fun y7 => mV (.int .i64) .s (st 8) fun y8 => loopN (B_slices_IndexInt_2 (fun e4 => K .ret (St.ofList [(4, (.v (.int .i64) .s e4))])) (K (.exit 0) (St.ofList []))) (fuel_slices_IndexInt_2 ⟨y0, y1, y7, y8⟩) ⟨y0, y1, y7, y8⟩)
  | _, _ => none
theorem step_slices_IndexInt_2 (R : Type) (K : Ex → St → Option R) (rec : St → Option R) (x : X_slices_IndexInt_2) : evC env_slices_IndexInt lp_slices_IndexInt inl0 c_slices_IndexInt_2 (S_slices_IndexInt_2 x) (fun e st => match e with | .normal => coerce [(0, false), (1, false), (7, false), (8, false)] st rec | e => coerce (out_slices_IndexInt_2 e) st (K e)) = B_slices_IndexInt_2 (fun e4 => K .ret (St.ofList [(4, (.v (.int .i64) .s e4))])) (K (.exit 0) (St.ofList [])) (fun x => rec (S_slices_IndexInt_2 x)) x := by kernel_rfl
theorem ok_slices_IndexInt_2 : LoopOk env_slices_IndexInt lp_slices_IndexInt inl0 c_slices_IndexInt_2 := by
  refine loopOk_of (hd := [(0, false), (1, false), (7, false), (8, false)]) (out := out_slices_IndexInt_2) (S := S_slices_IndexInt_2) (fun _ K => B_slices_IndexInt_2 (fun e4 => K .ret (St.ofList [(4, (.v (.int .i64) .s e4))])) (K (.exit 0) (St.ofList []))) fuel_slices_IndexInt_2 2 step_slices_IndexInt_2 (by kernel_rfl) (fun R K => fun st => mV (.sl 3 (.int .i64)) .s (st 0) fun y0 => mV (.int .i64) .s (st 1) fun y1 => mV (.int .i64) .s (st 7) fun y7 => mV (.int .i64) .s (st 8) fun y8 => loopN (B_slices_IndexInt_2 (fun e4 => K .ret (St.ofList [(4, (.v (.int .i64) .s e4))])) (K (.exit 0) (St.ofList []))) (fuel_slices_IndexInt_2 ⟨y0, y1, y7, y8⟩) ⟨y0, y1, y7, y8⟩) (fun R st K => by kernel_rfl) ?_
  intro R K st r h
  obtain ⟨y0, hy0, h⟩ := mV_inv h
  obtain ⟨y1, hy1, h⟩ := mV_inv h
  obtain ⟨y7, hy7, h⟩ := mV_inv h
  obtain ⟨y8, hy8, h⟩ := mV_inv h
  exact ⟨⟨y0, y1, y7, y8⟩, only_of_list (ofList_cons hy0 (ofList_cons hy1 (ofList_cons hy7 (ofList_cons hy8 rfl)))), h⟩
theorem loops_slices_IndexInt : LoopsOk env_slices_IndexInt lp_slices_IndexInt inl0 (body Tryz.f116.body) := by
  refine loopsOk_of (fun c hc => ?_) (fun c hc => ?_)
  · rw [show loopsL (body Tryz.f116.body) = [c_slices_IndexInt_2] by kernel_rfl] at hc
    simp only [List.mem_cons, List.not_mem_nil, or_false] at hc
    rcases hc with rfl
    · exact ok_slices_IndexInt_2
  · rw [show joinsL env_slices_IndexInt (body Tryz.f116.body) = [] by kernel_rfl] at hc; cases hc
noncomputable def p_slices_IndexInt {R : Type} (a0 : List (Int)) (a1 : Int) (K : Int → Option R) : Option R :=
  let v1 := ((List.length a0 : Nat) : Int)
  loopN (B_slices_IndexInt_2 (fun w2 =>
  K w2) (K (-1 : Int))) (fuel_slices_IndexInt_2 ⟨a0, a1, v1, (0 : Int)⟩) ⟨a0, a1, v1, (0 : Int)⟩
noncomputable def cs_slices_IndexInt : CSpec := { ins := [(.val (.sl 3 (.int .i64)) .s), (.val (.int .i64) .s)], outs := [((.int .i64), .s)], fn := fun (d : (List (Int)) × Int × Unit) K _ => p_slices_IndexInt d.1 d.2.1 (fun r0 => K ((r0, ()) : Int × Unit) ((()) : Unit)) }
theorem h_slices_IndexInt : Holds Tryz.prog 116 cs_slices_IndexInt := by
  refine holds_of (env := env_slices_IndexInt) (inl := inl0) (fn := Tryz.f116) (code := body Tryz.f116.body) (rs := [(4, none)]) (lp := lp_slices_IndexInt) mixed ⟨envTyOk.ty, envTyOk.eq⟩ (fun _ _ _ h => by cases h) inl0_ok Tryz.func116 (by kernel_rfl) (by kernel_rfl) (by kernel_rfl) (by kernel_rfl) (by kernel_rfl) loops_slices_IndexInt (by kernel_rfl) ?_
  intro d R K Kp res h
  have : evC env_slices_IndexInt lp_slices_IndexInt inl0 (body Tryz.f116.body) (St.start cs_slices_IndexInt.ins d) (retK env_slices_IndexInt cs_slices_IndexInt.ins cs_slices_IndexInt.outs [(4, none)] cs_slices_IndexInt.pan K Kp) = cs_slices_IndexInt.fn d K Kp := by kernel_rfl
  rw [this]; exact h
-- f88 trammel/sect.rank
noncomputable def gam_sect_rank : FuncId → List FuncId → Option CSpec
  | 116, [] => some cs_slices_IndexInt
  | _, _ => none
noncomputable def env_sect_rank : Env := { ty := envTy, eq := envEq, gam := gam_sect_rank, n := Tryz.f88.ntmps }
theorem gamOk_sect_rank : EnvFn Tryz.prog env_sect_rank := by
  intro f gs c h
  unfold env_sect_rank gam_sect_rank at h
  simp only at h
  split at h <;> first | (cases h; done) | (cases h; exact h_slices_IndexInt)
noncomputable def p_sect_rank {R : Type} (a0 : Int) (K : Int → Option R) : Option R :=
  let v1 := a0 == (0 : Int)
  cond v1
  (K (0 : Int))
  (let v2 := List.set (List.set (List.set (List.set (List.set (List.set (List.set (List.set (List.set (List.set (List.set (List.set (List.replicate 12 (0 : Int)) 0 (1 : Int)) 1 (2 : Int)) 2 (3 : Int)) 3 (4 : Int)) 4 (5 : Int)) 5 (6 : Int)) 6 (7 : Int)) 7 (8 : Int)) 8 (9 : Int)) 9 (12 : Int)) 10 (10 : Int)) 11 (11 : Int)
  p_slices_IndexInt v2 a0 fun r3 =>
  let v4 := decide (r3 < (0 : Int))
  cond v4
  (K (-1 : Int))
  (let v5 := IntKind.i64.wrap (r3 + (1 : Int))
  K v5))
noncomputable def cs_sect_rank : CSpec := { ins := [(.val (.int .i64) .s)], outs := [((.int .i64), .s)], fn := fun (d : Int × Unit) K _ => p_sect_rank d.1 (fun r0 => K ((r0, ()) : Int × Unit) ((()) : Unit)) }
theorem h_sect_rank : Holds Tryz.prog 88 cs_sect_rank := by
  refine holds_of (env := env_sect_rank) (inl := inl0) (fn := Tryz.f88) (code := body Tryz.f88.body) (rs := [(2, none)]) (lp := lp0) mixed ⟨envTyOk.ty, envTyOk.eq⟩ gamOk_sect_rank inl0_ok Tryz.func88 (by kernel_rfl) (by kernel_rfl) (by kernel_rfl) (by kernel_rfl) (by kernel_rfl) (loopsOk_none (by kernel_rfl) (by kernel_rfl)) (by kernel_rfl) ?_
  intro d R K Kp res h
  have : evC env_sect_rank lp0 inl0 (body Tryz.f88.body) (St.start cs_sect_rank.ins d) (retK env_sect_rank cs_sect_rank.ins cs_sect_rank.outs [(2, none)] cs_sect_rank.pan K Kp) = cs_sect_rank.fn d K Kp := by kernel_rfl
  rw [this]; exact h
-- f58 (*trammel/sect.order).next
noncomputable def gam_sect_order_next : FuncId → List FuncId → Option CSpec
  | 88, [] => some cs_sect_rank
  | _, _ => none
noncomputable def env_sect_order_next : Env := { ty := envTy, eq := envEq, gam := gam_sect_order_next, n := Tryz.f58.ntmps }
theorem gamOk_sect_order_next : EnvFn Tryz.prog env_sect_order_next := by
  intro f gs c h
  unfold env_sect_order_next gam_sect_order_next at h
  simp only at h
  split at h <;> first | (cases h; done) | (cases h; exact h_sect_rank)
noncomputable def p_sect_order_next {R : Type} (a0 : (Int) × Unit) (a1 : Int) (K : Bool → ((Int) × Unit) → Option R) : Option R :=
  p_sect_rank a1 fun r1 =>
  let v2 := r1 == (0 : Int)
  cond v2
  (K true a0)
  (let v3 := decide (r1 ≤ a0.1)
  cond v3
  (K false a0)
  (K true (r1, a0.2)))
noncomputable def cs_sect_order_next : CSpec := { ins := [(.ref (.pair (.int .i64) .unit) .s .s), (.val (.int .i64) .s)], outs := [(.bool, .s)], fn := fun (d : ((Int) × Unit) × Int × Unit) K _ => p_sect_order_next d.1 d.2.1 (fun r0 b0 => K ((r0, ()) : Bool × Unit) ((b0, ()) : ((Int) × Unit) × Unit)) }
theorem h_sect_order_next : Holds Tryz.prog 58 cs_sect_order_next := by
  refine holds_of (env := env_sect_order_next) (inl := inl0) (fn := Tryz.f58) (code := body Tryz.f58.body) (rs := [(4, none)]) (lp := lp0) mixed ⟨envTyOk.ty, envTyOk.eq⟩ gamOk_sect_order_next inl0_ok Tryz.func58 (by kernel_rfl) (by kernel_rfl) (by kernel_rfl) (by kernel_rfl) (by kernel_rfl) (loopsOk_none (by kernel_rfl) (by kernel_rfl)) (by kernel_rfl) ?_
  intro d R K Kp res h
  have : evC env_sect_order_next lp0 inl0 (body Tryz.f58.body) (St.start cs_sect_order_next.ins d) (retK env_sect_order_next cs_sect_order_next.ins cs_sect_order_next.outs [(4, none)] cs_sect_order_next.pan K Kp) = cs_sect_order_next.fn d K Kp := by kernel_rfl
  rw [this]; exact h
-- f41 trammel/sect.Split (in part: skipped f59)
noncomputable def gam_sect_Split : FuncId → List FuncId → Option CSpec
  | 57, [] => some cs_sect_magic
  | 58, [] => some cs_sect_order_next
  | _, _ => none
noncomputable def sb_sect_Split : Nat → Bool
  | 34 => true
  | 60 => true
  | 78 => true
  | _ => false
noncomputable def lv_sect_Split : Nat → Option (List Nat)
  | 0 => some [0]
  | 1 => some [0]
  | 2 => some []
  | 3 => some [0]
  | 4 => some [0, 15, 16, 17]
  | 5 => some [0, 15, 16, 17]
  | 6 => some [0, 4, 5, 15, 16, 17]
  | 7 => some []
  | 8 => some [0, 4, 5, 15, 16, 17]
  | 9 => some []
  | 10 => some [0, 15, 16, 17]
  | 11 => some [0]
  | 12 => some [0, 6]
  | 13 => some [0, 6, 7]
  | 14 => some [0, 6, 7]
  | 15 => some [0, 6, 7]
  | 16 => some [0, 6, 7, 8]
  | 17 => some [6]
  | 18 => some [0, 6, 7, 8]
  | 26 => some [6]
  | _ => none
noncomputable def env_sect_Split : Env := { ty := envTy, eq := envEq, gam := gam_sect_Split, n := Tryz.f41.ntmps, sb := sb_sect_Split, lv := lv_sect_Split }
theorem gamOk_sect_Split : EnvFn Tryz.prog env_sect_Split := by
  intro f gs c h
  unfold env_sect_Split gam_sect_Split at h
  simp only at h
  split at h <;> first | (cases h; done) | (cases h; exact h_sect_magic) | (cases h; exact h_sect_order_next)
structure X_sect_Split_4 where
  f0 : List (Int)
  f15 : List (Int)
  f16 : Int
  f17 : Int

noncomputable def B_sect_Split_4 {R : Type} (k_ret : (List ((Int) × (List (Int)) × Unit)) → Int → Option R) (k_exit_0 : (List (Int)) → Option R) (rec : X_sect_Split_4 → Option R) (x : X_sect_Split_4) : Option R :=
  let v1 := decide (x.f17 < x.f16)
  cond v1
  (cond (inB x.f17 (List.length x.f15))
  (let v2 := (List.getD x.f15 x.f17.toNat (0 : Int))
  let v3 := ((List.length x.f0 : Nat) : Int)
  let v4 := decide (x.f17 ≥ v3)
  cond v4
  (k_ret ([] : List ((Int) × (List (Int)) × Unit)) (1 : Int))
  (cond (inB x.f17 (List.length x.f0))
  (let v5 := List.getD x.f0 x.f17.toNat (0 : Int)
  let v6 := v5 != v2
  cond v6
  (k_ret ([] : List ((Int) × (List (Int)) × Unit)) (2 : Int))
  (let v7 := IntKind.i64.wrap (x.f17 + (1 : Int))
  rec ⟨x.f0, x.f15, x.f16, v7⟩)) none)) none)
  (k_exit_0 x.f0)
noncomputable def S_sect_Split_4 (x : X_sect_Split_4) : St := St.ofList [(0, (.v (.sl 5 (.int .u8)) .s x.f0)), (15, (.v (.sl 5 (.int .u8)) (.o .s) x.f15)), (16, (.v (.int .i64) .s x.f16)), (17, (.v (.int .i64) .s x.f17))]
def out_sect_Split_4 : Ex → List (Nat × Bool) | .ret => [(2, false), (3, false)] | .exit 0 => [(0, false)] | _ => []
noncomputable def fuel_sect_Split_4 (x : X_sect_Split_4) : Nat := fuel64
noncomputable def c_sect_Split_4 : Code := match loopAt 4 (body Tryz.f41.body) with | some c => c | none => .skip
structure X_sect_Split_14 where
  f0 : List (Int)
  f6 : List ((Int) × (List (Int)) × Unit)
  f7 : (Int) × Unit

noncomputable def B_sect_Split_14 {R : Type} (k_ret : (List ((Int) × (List (Int)) × Unit)) → Int → Option R) (k_exit_2 : (List ((Int) × (List (Int)) × Unit)) → Option R) (rec : X_sect_Split_14 → Option R) (x : X_sect_Split_14) : Option R :=
  let v1 := ((List.length x.f0 : Nat) : Int)
  let v2 := decide (v1 > (0 : Int))
  cond v2
  (cond (inB (0 : Int) (List.length x.f0))
  (let v3 := List.getD x.f0 (0 : Int).toNat (0 : Int)
  let v4 := IntKind.i64.wrap v3
  p_sect_order_next x.f7 v4 fun r5 b6 =>
  let v7 := !r5
  cond v7
  (k_ret x.f6 (2 : Int))
  (cond (inR (1 : Int) ((List.length x.f0 : Nat) : Int) (List.length x.f0))
  (let v8 := rng x.f0 (1 : Int) ((List.length x.f0 : Nat) : Int)
  none) none)) none)
  (k_exit_2 x.f6)
noncomputable def S_sect_Split_14 (x : X_sect_Split_14) : St := St.ofList [(0, (.v (.sl 5 (.int .u8)) .s x.f0)), (6, (.v (.sl 97 (.pair (.int .i64) (.pair (.sl 5 (.int .u8)) .unit))) (.o .s) x.f6)), (7, (.v (.ptr 123 (.pair (.int .i64) .unit)) (.o .s) (some x.f7)))]
def out_sect_Split_14 : Ex → List (Nat × Bool) | .ret => [(2, false), (3, false)] | .exit 2 => [(6, false)] | _ => []
noncomputable def fuel_sect_Split_14 (x : X_sect_Split_14) : Nat := fuel64
noncomputable def c_sect_Split_14 : Code := match loopAt 14 (body Tryz.f41.body) with | some c => c | none => .skip
noncomputable def lp_sect_Split : Loops := fun z i R st K => match z, i with
  | false, 4 => coerce [(0, false), (15, false), (16, false), (17, false)] st (fun st => mV (.sl 5 (.int .u8)) .s (st 0) fun y0 => mV (.sl 5 (.int .u8)) (.o .s) (st 15) fun y15 => mV (.int .i64) .s (st 16) fun y16 => mV (.int .i64) .s (st 17) fun y17 => loopN (B_sect_Split_4 (fun e2 e3 => K .ret (St.ofList [(2, (.v (.sl 97 (.pair (.int .i64) (.pair (.sl 5 (.int .u8)) .unit))) (.o .s) e2)), (3, (.v (.int .i64) .s e3))])) (fun e0 => K (.exit 0) (St.ofList [(0, (.v (.sl 5 (.int .u8)) .s e0))]))) (fuel_sect_Split_4 ⟨y0, y15, y16, y17⟩) ⟨y0, y15, y16, y17⟩)
  | false, 14 => coerce [(0, false), (6, false), (7, false)] st (fun st => mV (.sl 5 (.int .u8)) .s (st 0) fun y0 => mV (.sl 97 (.pair (.int .i64) (.pair (.sl 5 (.int .u8)) .unit))) (.o .s) (st 6) fun y6 => mP 123 (.pair (.int .i64) .unit) (.o .s) (st 7) fun y7 => loopN (B_sect_Split_14 (fun e2 e3 => K .ret (St.ofList [(2, (.v (.sl 97 (.pair (.int .i64) (.pair (.sl 5 (.int .u8)) .unit))) (.o .s) e2)), (3, (.v (.int .i64) .s e3))])) (fun e6 => K (.exit 2) (St.ofList [(6, (.v (.sl 97 (.pair (.int .i64) (.pair (.sl 5 (.int .u8)) .unit))) (.o .s) e6))]))) (fuel_sect_Split_14 ⟨y0, y6, y7⟩) ⟨y0, y6, y7⟩)
  | _, _ => none
theorem step_sect_Split_4 (R : Type) (K : Ex → St → Option R) (rec : St → Option R) (x : X_sect_Split_4) : evC env_sect_Split lp_sect_Split inl0 c_sect_Split_4 (S_sect_Split_4 x) (fun e st => match e with | .normal => coerce [(0, false), (15, false), (16, false), (17, false)] st rec | e => coerce (out_sect_Split_4 e) st (K e)) = B_sect_Split_4 (fun e2 e3 => K .ret (St.ofList [(2, (.v (.sl 97 (.pair (.int .i64) (.pair (.sl 5 (.int .u8)) .unit))) (.o .s) e2)), (3, (.v (.int .i64) .s e3))])) (fun e0 => K (.exit 0) (St.ofList [(0, (.v (.sl 5 (.int .u8)) .s e0))])) (fun x => rec (S_sect_Split_4 x)) x := by kernel_rfl
theorem ok_sect_Split_4 : LoopOk env_sect_Split lp_sect_Split inl0 c_sect_Split_4 := by
  refine loopOk_of (hd := [(0, false), (15, false), (16, false), (17, false)]) (out := out_sect_Split_4) (S := S_sect_Split_4) (fun _ K => B_sect_Split_4 (fun e2 e3 => K .ret (St.ofList [(2, (.v (.sl 97 (.pair (.int .i64) (.pair (.sl 5 (.int .u8)) .unit))) (.o .s) e2)), (3, (.v (.int .i64) .s e3))])) (fun e0 => K (.exit 0) (St.ofList [(0, (.v (.sl 5 (.int .u8)) .s e0))]))) fuel_sect_Split_4 4 step_sect_Split_4 (by kernel_rfl) (fun R K => fun st => mV (.sl 5 (.int .u8)) .s (st 0) fun y0 => mV (.sl 5 (.int .u8)) (.o .s) (st 15) fun y15 => mV (.int .i64) .s (st 16) fun y16 => mV (.int .i64) .s (st 17) fun y17 => loopN (B_sect_Split_4 (fun e2 e3 => K .ret (St.ofList [(2, (.v (.sl 97 (.pair (.int .i64) (.pair (.sl 5 (.int .u8)) .unit))) (.o .s) e2)), (3, (.v (.int .i64) .s e3))])) (fun e0 => K (.exit 0) (St.ofList [(0, (.v (.sl 5 (.int .u8)) .s e0))]))) (fuel_sect_Split_4 ⟨y0, y15, y16, y17⟩) ⟨y0, y15, y16, y17⟩) (fun R st K => by kernel_rfl) ?_
  intro R K st r h
  obtain ⟨y0, hy0, h⟩ := mV_inv h
  obtain ⟨y15, hy15, h⟩ := mV_inv h
  obtain ⟨y16, hy16, h⟩ := mV_inv h
  obtain ⟨y17, hy17, h⟩ := mV_inv h
  exact ⟨⟨y0, y15, y16, y17⟩, only_of_list (ofList_cons hy0 (ofList_cons hy15 (ofList_cons hy16 (ofList_cons hy17 rfl)))), h⟩
theorem step_sect_Split_14 (R : Type) (K : Ex → St → Option R) (rec : St → Option R) (x : X_sect_Split_14) : evC env_sect_Split lp_sect_Split inl0 c_sect_Split_14 (S_sect_Split_14 x) (fun e st => match e with | .normal => coerce [(0, false), (6, false), (7, false)] st rec | e => coerce (out_sect_Split_14 e) st (K e)) = B_sect_Split_14 (fun e2 e3 => K .ret (St.ofList [(2, (.v (.sl 97 (.pair (.int .i64) (.pair (.sl 5 (.int .u8)) .unit))) (.o .s) e2)), (3, (.v (.int .i64) .s e3))])) (fun e6 => K (.exit 2) (St.ofList [(6, (.v (.sl 97 (.pair (.int .i64) (.pair (.sl 5 (.int .u8)) .unit))) (.o .s) e6))])) (fun x => rec (S_sect_Split_14 x)) x := by kernel_rfl
theorem ok_sect_Split_14 : LoopOk env_sect_Split lp_sect_Split inl0 c_sect_Split_14 := by
  refine loopOk_of (hd := [(0, false), (6, false), (7, false)]) (out := out_sect_Split_14) (S := S_sect_Split_14) (fun _ K => B_sect_Split_14 (fun e2 e3 => K .ret (St.ofList [(2, (.v (.sl 97 (.pair (.int .i64) (.pair (.sl 5 (.int .u8)) .unit))) (.o .s) e2)), (3, (.v (.int .i64) .s e3))])) (fun e6 => K (.exit 2) (St.ofList [(6, (.v (.sl 97 (.pair (.int .i64) (.pair (.sl 5 (.int .u8)) .unit))) (.o .s) e6))]))) fuel_sect_Split_14 14 step_sect_Split_14 (by kernel_rfl) (fun R K => fun st => mV (.sl 5 (.int .u8)) .s (st 0) fun y0 => mV (.sl 97 (.pair (.int .i64) (.pair (.sl 5 (.int .u8)) .unit))) (.o .s) (st 6) fun y6 => mP 123 (.pair (.int .i64) .unit) (.o .s) (st 7) fun y7 => loopN (B_sect_Split_14 (fun e2 e3 => K .ret (St.ofList [(2, (.v (.sl 97 (.pair (.int .i64) (.pair (.sl 5 (.int .u8)) .unit))) (.o .s) e2)), (3, (.v (.int .i64) .s e3))])) (fun e6 => K (.exit 2) (St.ofList [(6, (.v (.sl 97 (.pair (.int .i64) (.pair (.sl 5 (.int .u8)) .unit))) (.o .s) e6))]))) (fuel_sect_Split_14 ⟨y0, y6, y7⟩) ⟨y0, y6, y7⟩) (fun R st K => by kernel_rfl) ?_
  intro R K st r h
  obtain ⟨y0, hy0, h⟩ := mV_inv h
  obtain ⟨y6, hy6, h⟩ := mV_inv h
  obtain ⟨y7, hy7, h⟩ := mP_inv h
  exact ⟨⟨y0, y6, y7⟩, only_of_list (ofList_cons hy0 (ofList_cons hy6 (ofList_cons hy7 rfl))), h⟩
theorem loops_sect_Split : LoopsOk env_sect_Split lp_sect_Split inl0 (body Tryz.f41.body) := by
  refine loopsOk_of (fun c hc => ?_) (fun c hc => ?_)
  · rw [show loopsL (body Tryz.f41.body) = [c_sect_Split_4, c_sect_Split_14] by kernel_rfl] at hc
    simp only [List.mem_cons, List.not_mem_nil, or_false] at hc
    rcases hc with rfl | rfl
    · exact ok_sect_Split_4
    · exact ok_sect_Split_14
  · rw [show joinsL env_sect_Split (body Tryz.f41.body) = [] by kernel_rfl] at hc; cases hc
noncomputable def p_sect_Split {R : Type} (a0 : List (Int)) (K : (List ((Int) × (List (Int)) × Unit)) → Int → Option R) : Option R :=
  let v1 := ((List.length a0 : Nat) : Int)
  let v2 := decide (v1 > (65536 : Int))
  cond v2
  (K ([] : List ((Int) × (List (Int)) × Unit)) (4 : Int))
  (p_sect_magic fun r3 =>
  let v4 := ((List.length r3 : Nat) : Int)
  loopN (B_sect_Split_4 (fun w5 w6 =>
  K w5 w6) (fun w7 =>
  cond (inR (8 : Int) ((List.length w7 : Nat) : Int) (List.length w7))
  (let v8 := rng w7 (8 : Int) ((List.length w7 : Nat) : Int)
  loopN (B_sect_Split_14 (fun w9 w10 =>
  K w9 w10) (fun w11 =>
  K w11 (0 : Int))) (fuel_sect_Split_14 ⟨v8, ([] : List ((Int) × (List (Int)) × Unit)), ((0 : Int), ())⟩) ⟨v8, ([] : List ((Int) × (List (Int)) × Unit)), ((0 : Int), ())⟩) none)) (fuel_sect_Split_4 ⟨a0, r3, v4, (0 : Int)⟩) ⟨a0, r3, v4, (0 : Int)⟩)
noncomputable def cs_sect_Split : CSpec := { ins := [(.val (.sl 5 (.int .u8)) .s)], outs := [((.sl 97 (.pair (.int .i64) (.pair (.sl 5 (.int .u8)) .unit))), (.o .s)), ((.int .i64), .s)], fn := fun (d : (List (Int)) × Unit) K _ => p_sect_Split d.1 (fun r0 r1 => K ((r0, r1, ()) : (List ((Int) × (List (Int)) × Unit)) × Int × Unit) ((()) : Unit)) }
theorem h_sect_Split : Holds Tryz.prog 41 cs_sect_Split := by
  refine holds_of (env := env_sect_Split) (inl := inl0) (fn := Tryz.f41) (code := body Tryz.f41.body) (rs := [(2, none), (3, none)]) (lp := lp_sect_Split) mixed ⟨envTyOk.ty, envTyOk.eq⟩ gamOk_sect_Split inl0_ok Tryz.func41 (by kernel_rfl) (by kernel_rfl) (by kernel_rfl) (by kernel_rfl) (by kernel_rfl) loops_sect_Split (by kernel_rfl) ?_
  intro d R K Kp res h
  have : evC env_sect_Split lp_sect_Split inl0 (body Tryz.f41.body) (St.start cs_sect_Split.ins d) (retK env_sect_Split cs_sect_Split.ins cs_sect_Split.outs [(2, none), (3, none)] cs_sect_Split.pan K Kp) = cs_sect_Split.fn d K Kp := by kernel_rfl
  rw [this]; exact h
-- f44 (*trammel/mod.reader).ok
noncomputable def om_mod_reader_ok : TypeId → Md
  | 22 => (.o .s)
  | 25 => (.o (.p (.o .s) (.p (.o .s) .s)))
  | 26 => (.o .s)
  | 27 => (.o (.p .s (.p (.o .s) (.p (.o (.p .s (.p .s (.p .s (.p .s (.p (.o .s) .s)))))) .s))))
  | 28 => (.o .s)
  | 29 => (.o (.p .s (.p .s (.p (.o (.p .s (.p .s (.p .s (.p .s (.p (.o .s) .s)))))) .s))))
  | 30 => (.o .s)
  | 31 => (.o .s)
  | 32 => (.o (.p .s (.p (.o (.p .s (.p .s (.p .s (.p .s (.p (.o .s) .s)))))) (.p (.o .s) .s))))
  | 33 => (.o (.p .s (.p (.o (.p .s (.p .s (.p .s (.p .s (.p (.o .s) .s)))))) (.p (.o .s) .s))))
  | 34 => (.o (.p .s (.p (.o .s) .s)))
  | 35 => (.p (.o (.p (.o .s) (.p (.o .s) .s))) (.p (.o .s) (.p (.o (.p .s (.p (.o .s) (.p (.o (.p .s (.p .s (.p .s (.p .s (.p (.o .s) .s)))))) .s)))) (.p (.o .s) (.p (.o .s) (.p (.o (.p .s (.p .s (.p (.o (.p .s (.p .s (.p .s (.p .s (.p (.o .s) .s)))))) .s)))) (.p (.o .s) (.p (.o .s) (.p (.o (.p .s (.p (.o (.p .s (.p .s (.p .s (.p .s (.p (.o .s) .s)))))) (.p (.o .s) .s)))) (.p (.o .s) (.p (.o (.p .s (.p (.o (.p .s (.p .s (.p .s (.p .s (.p (.o .s) .s)))))) (.p (.o .s) .s)))) (.p (.o (.p .s (.p (.o .s) .s))) .s))))))))))))
  | 36 => (.p (.o (.p (.o .s) (.p (.o .s) .s))) (.p (.o .s) (.p (.o (.p .s (.p (.o .s) (.p (.o (.p .s (.p .s (.p .s (.p .s (.p (.o .s) .s)))))) .s)))) (.p (.o .s) (.p (.o .s) (.p (.o (.p .s (.p .s (.p (.o (.p .s (.p .s (.p .s (.p .s (.p (.o .s) .s)))))) .s)))) (.p (.o .s) (.p (.o .s) (.p (.o (.p .s (.p (.o (.p .s (.p .s (.p .s (.p .s (.p (.o .s) .s)))))) (.p (.o .s) .s)))) (.p (.o .s) (.p (.o (.p .s (.p (.o (.p .s (.p .s (.p .s (.p .s (.p (.o .s) .s)))))) (.p (.o .s) .s)))) (.p (.o (.p .s (.p (.o .s) .s))) .s))))))))))))
  | 37 => (.o .s)
  | 38 => (.p (.o (.p (.o .s) (.p (.o .s) .s))) (.p (.o .s) (.p (.o .s) (.p (.o .s) (.p (.o .s) .s)))))
  | 39 => (.p (.o (.p (.o .s) (.p (.o .s) .s))) (.p (.o .s) (.p (.o .s) (.p (.o .s) (.p (.o .s) .s)))))
  | 54 => (.p (.o .s) (.p (.o .s) .s))
  | 55 => (.p (.o .s) (.p (.o .s) .s))
  | 61 => (.o (.p .s (.p .s (.p .s (.p .s (.p (.o .s) .s))))))
  | 62 => (.p .s (.p (.o .s) (.p (.o (.p .s (.p .s (.p .s (.p .s (.p (.o .s) .s)))))) .s)))
  | 63 => (.p .s (.p (.o .s) (.p (.o (.p .s (.p .s (.p .s (.p .s (.p (.o .s) .s)))))) .s)))
  | 65 => (.p .s (.p .s (.p (.o (.p .s (.p .s (.p .s (.p .s (.p (.o .s) .s)))))) .s)))
  | 66 => (.p .s (.p .s (.p (.o (.p .s (.p .s (.p .s (.p .s (.p (.o .s) .s)))))) .s)))
  | 69 => (.p .s (.p (.o (.p .s (.p .s (.p .s (.p .s (.p (.o .s) .s)))))) (.p (.o .s) .s)))
  | 70 => (.p .s (.p (.o (.p .s (.p .s (.p .s (.p .s (.p (.o .s) .s)))))) (.p (.o .s) .s)))
  | 71 => (.p .s (.p (.o (.p .s (.p .s (.p .s (.p .s (.p (.o .s) .s)))))) (.p (.o .s) .s)))
  | 72 => (.p .s (.p (.o (.p .s (.p .s (.p .s (.p .s (.p (.o .s) .s)))))) (.p (.o .s) .s)))
  | 73 => (.p .s (.p (.o .s) .s))
  | 74 => (.p .s (.p (.o .s) .s))
  | 93 => (.o (.p .s (.p (.o .s) .s)))
  | 96 => (.p .s (.p (.o .s) .s))
  | 97 => (.p .s (.p (.o .s) .s))
  | 101 => (.p (.o .s) .s)
  | 102 => (.p (.o .s) .s)
  | 106 => (.p (.p (.o (.p (.o .s) (.p (.o .s) .s))) (.p (.o .s) (.p (.o .s) (.p (.o .s) (.p (.o .s) .s))))) .s)
  | 107 => (.p (.p (.o (.p (.o .s) (.p (.o .s) .s))) (.p (.o .s) (.p (.o .s) (.p (.o .s) (.p (.o .s) .s))))) .s)
  | 117 => (.p .s (.p .s (.p .s (.p .s (.p (.o .s) .s)))))
  | 118 => (.p .s (.p .s (.p .s (.p .s (.p (.o .s) .s)))))
  | 154 => (.o (.p .s (.p (.o .s) (.p (.o .s) .s))))
  | 155 => (.p (.p (.o (.p (.o .s) (.p (.o .s) .s))) (.p (.o .s) (.p (.o .s) (.p (.o .s) (.p (.o .s) .s))))) (.p (.o .s) (.p (.o .s) (.p (.o (.p .s (.p (.o .s) (.p (.o .s) .s)))) .s))))
  | 156 => (.p (.p (.o (.p (.o .s) (.p (.o .s) .s))) (.p (.o .s) (.p (.o .s) (.p (.o .s) (.p (.o .s) .s))))) (.p (.o .s) (.p (.o .s) (.p (.o (.p .s (.p (.o .s) (.p (.o .s) .s)))) .s))))
  | 177 => (.o .s)
  | 178 => (.p (.o .s) .s)
  | 179 => (.p (.o .s) .s)
  | 183 => (.o (.o .s))
  | 185 => (.p .s (.p (.o .s) (.p (.o .s) .s)))
  | 186 => (.p .s (.p (.o .s) (.p (.o .s) .s)))
  | 212 => (.p (.o .s) .s)
  | 213 => (.p (.o .s) .s)
  | _ => .s
noncomputable def env_mod_reader_ok : Env := { ty := envTy, eq := envEq, gam := noG, n := Tryz.f44.ntmps, om := om_mod_reader_ok }
noncomputable def p_mod_reader_ok {R : Type} (a0 : (List (Int)) × (Int) × Unit) (K : Bool → ((List (Int)) × (Int) × Unit) → Option R) : Option R :=
  let v1 := a0.2.1 == (0 : Int)
  K v1 a0
noncomputable def cs_mod_reader_ok : CSpec := { ins := [(.ref (.pair (.sl 5 (.int .u8)) (.pair (.int .i64) .unit)) .s .s)], outs := [(.bool, .s)], fn := fun (d : ((List (Int)) × (Int) × Unit) × Unit) K _ => p_mod_reader_ok d.1 (fun r0 b0 => K ((r0, ()) : Bool × Unit) ((b0, ()) : ((List (Int)) × (Int) × Unit) × Unit)) }
theorem h_mod_reader_ok : Holds Tryz.prog 44 cs_mod_reader_ok := by
  refine holds_of (env := env_mod_reader_ok) (inl := inl0) (fn := Tryz.f44) (code := body Tryz.f44.body) (rs := [(2, none)]) (lp := lp0) mixed ⟨envTyOk.ty, envTyOk.eq⟩ (fun _ _ _ h => by cases h) inl0_ok Tryz.func44 (by kernel_rfl) (by kernel_rfl) (by kernel_rfl) (by kernel_rfl) (by kernel_rfl) (loopsOk_none (by kernel_rfl) (by kernel_rfl)) (by kernel_rfl) ?_
  intro d R K Kp res h
  have : evC env_mod_reader_ok lp0 inl0 (body Tryz.f44.body) (St.start cs_mod_reader_ok.ins d) (retK env_mod_reader_ok cs_mod_reader_ok.ins cs_mod_reader_ok.outs [(2, none)] cs_mod_reader_ok.pan K Kp) = cs_mod_reader_ok.fn d K Kp := by kernel_rfl
  rw [this]; exact h
-- f13 trammel/mod.Decode (in part: skipped f42 | skipped f43)
noncomputable def gam_mod_Decode : FuncId → List FuncId → Option CSpec
  | 41, [] => some cs_sect_Split
  | _, _ => none
noncomputable def fs_mod_Decode : Nat → Bool
  | 10 => true
  | 11 => true
  | _ => false
noncomputable def lv_mod_Decode : Nat → Option (List Nat)
  | 0 => some [0]
  | 1 => some [0, 2]
  | 2 => some [2, 4, 5]
  | 3 => some [2, 4, 5, 6]
  | 4 => some [2, 4, 5, 6, 7, 8]
  | 5 => some [2, 4, 5, 6, 7, 8, 19, 20, 21]
  | 6 => some [2, 4, 5, 6, 7, 8, 19, 20, 21]
  | 7 => some [2, 4, 5, 6, 7, 8, 10, 19, 20, 21]
  | 8 => some [2, 4, 5, 6, 7, 8, 10, 19, 20, 21]
  | 12 => some [2, 4, 5, 6, 7, 8, 10, 19, 20, 21]
  | 13 => some [2, 4, 5, 6, 7, 8, 10, 13, 19, 20, 21]
  | 18 => some [2, 5, 6, 7, 8]
  | 19 => some [2, 5]
  | 20 => some [2, 6, 7, 8]
  | 21 => some [2]
  | 22 => some [2, 6]
  | _ => none
noncomputable def om_mod_Decode : TypeId → Md
  | 22 => (.o .s)
  | 25 => (.o (.p (.o .s) (.p (.o .s) .s)))
  | 26 => (.o .s)
  | 27 => (.o (.p .s (.p (.o .s) (.p (.o (.p .s (.p .s (.p .s (.p .s (.p (.o .s) .s)))))) .s))))
  | 28 => (.o .s)
  | 29 => (.o (.p .s (.p .s (.p (.o (.p .s (.p .s (.p .s (.p .s (.p (.o .s) .s)))))) .s))))
  | 30 => (.o .s)
  | 31 => (.o .s)
  | 32 => (.o (.p .s (.p (.o (.p .s (.p .s (.p .s (.p .s (.p (.o .s) .s)))))) (.p (.o .s) .s))))
  | 33 => (.o (.p .s (.p (.o (.p .s (.p .s (.p .s (.p .s (.p (.o .s) .s)))))) (.p (.o .s) .s))))
  | 34 => (.o (.p .s (.p (.o .s) .s)))
  | 35 => (.p (.o (.p (.o .s) (.p (.o .s) .s))) (.p (.o .s) (.p (.o (.p .s (.p (.o .s) (.p (.o (.p .s (.p .s (.p .s (.p .s (.p (.o .s) .s)))))) .s)))) (.p (.o .s) (.p (.o .s) (.p (.o (.p .s (.p .s (.p (.o (.p .s (.p .s (.p .s (.p .s (.p (.o .s) .s)))))) .s)))) (.p (.o .s) (.p (.o .s) (.p (.o (.p .s (.p (.o (.p .s (.p .s (.p .s (.p .s (.p (.o .s) .s)))))) (.p (.o .s) .s)))) (.p (.o .s) (.p (.o (.p .s (.p (.o (.p .s (.p .s (.p .s (.p .s (.p (.o .s) .s)))))) (.p (.o .s) .s)))) (.p (.o (.p .s (.p (.o .s) .s))) .s))))))))))))
  | 36 => (.p (.o (.p (.o .s) (.p (.o .s) .s))) (.p (.o .s) (.p (.o (.p .s (.p (.o .s) (.p (.o (.p .s (.p .s (.p .s (.p .s (.p (.o .s) .s)))))) .s)))) (.p (.o .s) (.p (.o .s) (.p (.o (.p .s (.p .s (.p (.o (.p .s (.p .s (.p .s (.p .s (.p (.o .s) .s)))))) .s)))) (.p (.o .s) (.p (.o .s) (.p (.o (.p .s (.p (.o (.p .s (.p .s (.p .s (.p .s (.p (.o .s) .s)))))) (.p (.o .s) .s)))) (.p (.o .s) (.p (.o (.p .s (.p (.o (.p .s (.p .s (.p .s (.p .s (.p (.o .s) .s)))))) (.p (.o .s) .s)))) (.p (.o (.p .s (.p (.o .s) .s))) .s))))))))))))
  | 37 => (.o .s)
  | 38 => (.p (.o (.p (.o .s) (.p (.o .s) .s))) (.p (.o .s) (.p (.o .s) (.p (.o .s) (.p (.o .s) .s)))))
  | 39 => (.p (.o (.p (.o .s) (.p (.o .s) .s))) (.p (.o .s) (.p (.o .s) (.p (.o .s) (.p (.o .s) .s)))))
  | 54 => (.p (.o .s) (.p (.o .s) .s))
  | 55 => (.p (.o .s) (.p (.o .s) .s))
  | 61 => (.o (.p .s (.p .s (.p .s (.p .s (.p (.o .s) .s))))))
  | 62 => (.p .s (.p (.o .s) (.p (.o (.p .s (.p .s (.p .s (.p .s (.p (.o .s) .s)))))) .s)))
  | 63 => (.p .s (.p (.o .s) (.p (.o (.p .s (.p .s (.p .s (.p .s (.p (.o .s) .s)))))) .s)))
  | 65 => (.p .s (.p .s (.p (.o (.p .s (.p .s (.p .s (.p .s (.p (.o .s) .s)))))) .s)))
  | 66 => (.p .s (.p .s (.p (.o (.p .s (.p .s (.p .s (.p .s (.p (.o .s) .s)))))) .s)))
  | 69 => (.p .s (.p (.o (.p .s (.p .s (.p .s (.p .s (.p (.o .s) .s)))))) (.p (.o .s) .s)))
  | 70 => (.p .s (.p (.o (.p .s (.p .s (.p .s (.p .s (.p (.o .s) .s)))))) (.p (.o .s) .s)))
  | 71 => (.p .s (.p (.o (.p .s (.p .s (.p .s (.p .s (.p (.o .s) .s)))))) (.p (.o .s) .s)))
  | 72 => (.p .s (.p (.o (.p .s (.p .s (.p .s (.p .s (.p (.o .s) .s)))))) (.p (.o .s) .s)))
  | 73 => (.p .s (.p (.o .s) .s))
  | 74 => (.p .s (.p (.o .s) .s))
  | 93 => (.o (.p .s (.p (.o .s) .s)))
  | 96 => (.p .s (.p (.o .s) .s))
  | 97 => (.p .s (.p (.o .s) .s))
  | 101 => (.p (.o .s) .s)
  | 102 => (.p (.o .s) .s)
  | 106 => (.p (.p (.o (.p (.o .s) (.p (.o .s) .s))) (.p (.o .s) (.p (.o .s) (.p (.o .s) (.p (.o .s) .s))))) .s)
  | 107 => (.p (.p (.o (.p (.o .s) (.p (.o .s) .s))) (.p (.o .s) (.p (.o .s) (.p (.o .s) (.p (.o .s) .s))))) .s)
  | 117 => (.p .s (.p .s (.p .s (.p .s (.p (.o .s) .s)))))
  | 118 => (.p .s (.p .s (.p .s (.p .s (.p (.o .s) .s)))))
  | 154 => (.o (.p .s (.p (.o .s) (.p (.o .s) .s))))
  | 155 => (.p (.p (.o (.p (.o .s) (.p (.o .s) .s))) (.p (.o .s) (.p (.o .s) (.p (.o .s) (.p (.o .s) .s))))) (.p (.o .s) (.p (.o .s) (.p (.o (.p .s (.p (.o .s) (.p (.o .s) .s)))) .s))))
  | 156 => (.p (.p (.o (.p (.o .s) (.p (.o .s) .s))) (.p (.o .s) (.p (.o .s) (.p (.o .s) (.p (.o .s) .s))))) (.p (.o .s) (.p (.o .s) (.p (.o (.p .s (.p (.o .s) (.p (.o .s) .s)))) .s))))
  | 177 => (.o .s)
  | 178 => (.p (.o .s) .s)
  | 179 => (.p (.o .s) .s)
  | 183 => (.o (.o .s))
  | 185 => (.p .s (.p (.o .s) (.p (.o .s) .s)))
  | 186 => (.p .s (.p (.o .s) (.p (.o .s) .s)))
  | 212 => (.p (.o .s) .s)
  | 213 => (.p (.o .s) .s)
  | _ => .s
noncomputable def env_mod_Decode : Env := { ty := envTy, eq := envEq, gam := gam_mod_Decode, n := Tryz.f13.ntmps, fs := fs_mod_Decode, lv := lv_mod_Decode, om := om_mod_Decode }
theorem gamOk_mod_Decode : EnvFn Tryz.prog env_mod_Decode := by
  intro f gs c h
  unfold env_mod_Decode gam_mod_Decode at h
  simp only at h
  split at h <;> first | (cases h; done) | (cases h; exact h_sect_Split)
structure X_mod_Decode_5 where
  f2 : It7
  f4 : List ((Int) × (List (Int)) × Unit)
  f5 : Int
  f6 : It7
  f7 : Bool
  f8 : Bool
  f20 : Int
  f21 : Int

noncomputable def B_mod_Decode_5 {R : Type} (k_exit_0 : It7 → Int → It7 → Bool → Bool → Option R) (rec : X_mod_Decode_5 → Option R) (x : X_mod_Decode_5) : Option R :=
  let v1 := decide (x.f21 < x.f20)
  cond v1
  (cond (inB x.f21 (List.length x.f4))
  (let v2 := (List.getD x.f4 x.f21.toNat ((0 : Int), (([] : List (Int)), ())))
  let v3 := v2.1 == (0 : Int)
  cond v3
  (none) none) none)
  (k_exit_0 x.f2 x.f5 x.f6 x.f7 x.f8)
noncomputable def S_mod_Decode_5 (x : X_mod_Decode_5) : St := St.ofList [(2, (.v (.ptr 36 Ty21) (.o (.p (.o (.p (.o .s) (.p (.o .s) .s))) (.p (.o .s) (.p (.o (.p .s (.p (.o .s) (.p (.o (.p .s (.p .s (.p .s (.p .s (.p (.o .s) .s)))))) .s)))) (.p (.o .s) (.p (.o .s) (.p (.o (.p .s (.p .s (.p (.o (.p .s (.p .s (.p .s (.p .s (.p (.o .s) .s)))))) .s)))) (.p (.o .s) (.p (.o .s) (.p (.o (.p .s (.p (.o (.p .s (.p .s (.p .s (.p .s (.p (.o .s) .s)))))) (.p (.o .s) .s)))) (.p (.o .s) (.p (.o (.p .s (.p (.o (.p .s (.p .s (.p .s (.p .s (.p (.o .s) .s)))))) (.p (.o .s) .s)))) (.p (.o (.p .s (.p (.o .s) .s))) .s))))))))))))) (some x.f2))), (4, (.v (.sl 97 (.pair (.int .i64) (.pair (.sl 5 (.int .u8)) .unit))) (.o .s) x.f4)), (5, (.v (.int .i64) .s x.f5)), (6, (.v (.ptr 36 Ty21) (.o (.p (.o (.p (.o .s) (.p (.o .s) .s))) (.p (.o .s) (.p (.o (.p .s (.p (.o .s) (.p (.o (.p .s (.p .s (.p .s (.p .s (.p (.o .s) .s)))))) .s)))) (.p (.o .s) (.p (.o .s) (.p (.o (.p .s (.p .s (.p (.o (.p .s (.p .s (.p .s (.p .s (.p (.o .s) .s)))))) .s)))) (.p (.o .s) (.p (.o .s) (.p (.o (.p .s (.p (.o (.p .s (.p .s (.p .s (.p .s (.p (.o .s) .s)))))) (.p (.o .s) .s)))) (.p (.o .s) (.p (.o (.p .s (.p (.o (.p .s (.p .s (.p .s (.p .s (.p (.o .s) .s)))))) (.p (.o .s) .s)))) (.p (.o (.p .s (.p (.o .s) .s))) .s))))))))))))) (some x.f6))), (7, (.v .bool .s x.f7)), (8, (.v .bool .s x.f8)), (19, (.lz 4 [])), (20, (.v (.int .i64) .s x.f20)), (21, (.v (.int .i64) .s x.f21))]
def out_mod_Decode_5 : Ex → List (Nat × Bool) | .exit 0 => [(2, false), (5, false), (6, false), (7, false), (8, false)] | _ => []
noncomputable def fuel_mod_Decode_5 (x : X_mod_Decode_5) : Nat := fuel64
noncomputable def c_mod_Decode_5 : Code := match loopAt 5 (body Tryz.f13.body) with | some c => c | none => .skip
noncomputable def lp_mod_Decode : Loops := fun z i R st K => match z, i with
  | false, 5 => coerce [(2, false), (4, false), (5, false), (6, false), (7, false), (8, false), (19, false), (20, false), (21, false)] st (fun st => mP 36 Ty21 (.o (.p (.o (.p (.o .s) (.p (.o .s) .s))) (.p (.o .s) (.p (.o (.p .s (.p (.o .s) (.p (.o (.p .s (.p .s (.p .s (.p .s (.p (.o .s) .s)))))) .s)))) (.p (.o .s) (.p (.o .s) (.p (.o (.p .s (.p .s (.p (.o (.p .s (.p .s (.p .s (.p .s (.p (.o .s) .s)))))) .s)))) (.p (.o .s) (.p (.o .s) (.p (.o (.p .s (.p (.o (.p .s (.p .s (.p .s (.p .s (.p (.o .s) .s)))))) (.p (.o .s) .s)))) (.p (.o .s) (.p (.o (.p .s (.p (.o (.p .s (.p .s (.p .s (.p .s (.p (.o .s) .s)))))) (.p (.o .s) .s)))) (.p (.o (.p .s (.p (.o .s) .s))) .s))))))))))))) (st 2) fun y2 => mV (.sl 97 (.pair (.int .i64) (.pair (.sl 5 (.int .u8)) .unit))) (.o .s) (st 4) fun y4 => mV (.int .i64) .s (st 5) fun y5 => mP 36 Ty21 (.o (.p (.o (.p (.o .s) (.p (.o .s) .s))) (.p (.o .s) (.p (.o (.p .s (.p (.o .s) (.p (.o (.p .s (.p .s (.p .s (.p .s (.p (.o .s) .s)))))) .s)))) (.p (.o .s) (.p (.o .s) (.p (.o (.p .s (.p .s (.p (.o (.p .s (.p .s (.p .s (.p .s (.p (.o .s) .s)))))) .s)))) (.p (.o .s) (.p (.o .s) (.p (.o (.p .s (.p (.o (.p .s (.p .s (.p .s (.p .s (.p (.o .s) .s)))))) (.p (.o .s) .s)))) (.p (.o .s) (.p (.o (.p .s (.p (.o (.p .s (.p .s (.p .s (.p .s (.p (.o .s) .s)))))) (.p (.o .s) .s)))) (.p (.o (.p .s (.p (.o .s) .s))) .s))))))))))))) (st 6) fun y6 => mV .bool .s (st 7) fun y7 => mV .bool .s (st 8) fun y8 => mLz 4 [] (st 19) (mV (.int .i64) .s (st 20) fun y20 => mV (.int .i64) .s (st 21) fun y21 => loopN (B_mod_Decode_5 (fun e2 e5 e6 e7 e8 => K (.exit 0) (St.ofList [(2, (.v (.ptr 36 Ty21) (.o (.p (.o (.p (.o .s) (.p (.o .s) .s))) (.p (.o .s) (.p (.o (.p .s (.p (.o .s) (.p (.o (.p .s (.p .s (.p .s (.p .s (.p (.o .s) .s)))))) .s)))) (.p (.o .s) (.p (.o .s) (.p (.o (.p .s (.p .s (.p (.o (.p .s (.p .s (.p .s (.p .s (.p (.o .s) .s)))))) .s)))) (.p (.o .s) (.p (.o .s) (.p (.o (.p .s (.p (.o (.p .s (.p .s (.p .s (.p .s (.p (.o .s) .s)))))) (.p (.o .s) .s)))) (.p (.o .s) (.p (.o (.p .s (.p (.o (.p .s (.p .s (.p .s (.p .s (.p (.o .s) .s)))))) (.p (.o .s) .s)))) (.p (.o (.p .s (.p (.o .s) .s))) .s))))))))))))) (some e2))), (5, (.v (.int .i64) .s e5)), (6, (.v (.ptr 36 Ty21) (.o (.p (.o (.p (.o .s) (.p (.o .s) .s))) (.p (.o .s) (.p (.o (.p .s (.p (.o .s) (.p (.o (.p .s (.p .s (.p .s (.p .s (.p (.o .s) .s)))))) .s)))) (.p (.o .s) (.p (.o .s) (.p (.o (.p .s (.p .s (.p (.o (.p .s (.p .s (.p .s (.p .s (.p (.o .s) .s)))))) .s)))) (.p (.o .s) (.p (.o .s) (.p (.o (.p .s (.p (.o (.p .s (.p .s (.p .s (.p .s (.p (.o .s) .s)))))) (.p (.o .s) .s)))) (.p (.o .s) (.p (.o (.p .s (.p (.o (.p .s (.p .s (.p .s (.p .s (.p (.o .s) .s)))))) (.p (.o .s) .s)))) (.p (.o (.p .s (.p (.o .s) .s))) .s))))))))))))) (some e6))), (7, (.v .bool .s e7)), (8, (.v .bool .s e8))]))) (fuel_mod_Decode_5 ⟨y2, y4, y5, y6, y7, y8, y20, y21⟩) ⟨y2, y4, y5, y6, y7, y8, y20, y21⟩))
  | _, _ => none
theorem step_mod_Decode_5 (R : Type) (K : Ex → St → Option R) (rec : St → Option R) (x : X_mod_Decode_5) : evC env_mod_Decode lp_mod_Decode inl0 c_mod_Decode_5 (S_mod_Decode_5 x) (fun e st => match e with | .normal => coerce [(2, false), (4, false), (5, false), (6, false), (7, false), (8, false), (19, false), (20, false), (21, false)] st rec | e => coerce (out_mod_Decode_5 e) st (K e)) = B_mod_Decode_5 (fun e2 e5 e6 e7 e8 => K (.exit 0) (St.ofList [(2, (.v (.ptr 36 Ty21) (.o (.p (.o (.p (.o .s) (.p (.o .s) .s))) (.p (.o .s) (.p (.o (.p .s (.p (.o .s) (.p (.o (.p .s (.p .s (.p .s (.p .s (.p (.o .s) .s)))))) .s)))) (.p (.o .s) (.p (.o .s) (.p (.o (.p .s (.p .s (.p (.o (.p .s (.p .s (.p .s (.p .s (.p (.o .s) .s)))))) .s)))) (.p (.o .s) (.p (.o .s) (.p (.o (.p .s (.p (.o (.p .s (.p .s (.p .s (.p .s (.p (.o .s) .s)))))) (.p (.o .s) .s)))) (.p (.o .s) (.p (.o (.p .s (.p (.o (.p .s (.p .s (.p .s (.p .s (.p (.o .s) .s)))))) (.p (.o .s) .s)))) (.p (.o (.p .s (.p (.o .s) .s))) .s))))))))))))) (some e2))), (5, (.v (.int .i64) .s e5)), (6, (.v (.ptr 36 Ty21) (.o (.p (.o (.p (.o .s) (.p (.o .s) .s))) (.p (.o .s) (.p (.o (.p .s (.p (.o .s) (.p (.o (.p .s (.p .s (.p .s (.p .s (.p (.o .s) .s)))))) .s)))) (.p (.o .s) (.p (.o .s) (.p (.o (.p .s (.p .s (.p (.o (.p .s (.p .s (.p .s (.p .s (.p (.o .s) .s)))))) .s)))) (.p (.o .s) (.p (.o .s) (.p (.o (.p .s (.p (.o (.p .s (.p .s (.p .s (.p .s (.p (.o .s) .s)))))) (.p (.o .s) .s)))) (.p (.o .s) (.p (.o (.p .s (.p (.o (.p .s (.p .s (.p .s (.p .s (.p (.o .s) .s)))))) (.p (.o .s) .s)))) (.p (.o (.p .s (.p (.o .s) .s))) .s))))))))))))) (some e6))), (7, (.v .bool .s e7)), (8, (.v .bool .s e8))])) (fun x => rec (S_mod_Decode_5 x)) x := by kernel_rfl
theorem ok_mod_Decode_5 : LoopOk env_mod_Decode lp_mod_Decode inl0 c_mod_Decode_5 := by
  refine loopOk_of (hd := [(2, false), (4, false), (5, false), (6, false), (7, false), (8, false), (19, false), (20, false), (21, false)]) (out := out_mod_Decode_5) (S := S_mod_Decode_5) (fun _ K => B_mod_Decode_5 (fun e2 e5 e6 e7 e8 => K (.exit 0) (St.ofList [(2, (.v (.ptr 36 Ty21) (.o (.p (.o (.p (.o .s) (.p (.o .s) .s))) (.p (.o .s) (.p (.o (.p .s (.p (.o .s) (.p (.o (.p .s (.p .s (.p .s (.p .s (.p (.o .s) .s)))))) .s)))) (.p (.o .s) (.p (.o .s) (.p (.o (.p .s (.p .s (.p (.o (.p .s (.p .s (.p .s (.p .s (.p (.o .s) .s)))))) .s)))) (.p (.o .s) (.p (.o .s) (.p (.o (.p .s (.p (.o (.p .s (.p .s (.p .s (.p .s (.p (.o .s) .s)))))) (.p (.o .s) .s)))) (.p (.o .s) (.p (.o (.p .s (.p (.o (.p .s (.p .s (.p .s (.p .s (.p (.o .s) .s)))))) (.p (.o .s) .s)))) (.p (.o (.p .s (.p (.o .s) .s))) .s))))))))))))) (some e2))), (5, (.v (.int .i64) .s e5)), (6, (.v (.ptr 36 Ty21) (.o (.p (.o (.p (.o .s) (.p (.o .s) .s))) (.p (.o .s) (.p (.o (.p .s (.p (.o .s) (.p (.o (.p .s (.p .s (.p .s (.p .s (.p (.o .s) .s)))))) .s)))) (.p (.o .s) (.p (.o .s) (.p (.o (.p .s (.p .s (.p (.o (.p .s (.p .s (.p .s (.p .s (.p (.o .s) .s)))))) .s)))) (.p (.o .s) (.p (.o .s) (.p (.o (.p .s (.p (.o (.p .s (.p .s (.p .s (.p .s (.p (.o .s) .s)))))) (.p (.o .s) .s)))) (.p (.o .s) (.p (.o (.p .s (.p (.o (.p .s (.p .s (.p .s (.p .s (.p (.o .s) .s)))))) (.p (.o .s) .s)))) (.p (.o (.p .s (.p (.o .s) .s))) .s))))))))))))) (some e6))), (7, (.v .bool .s e7)), (8, (.v .bool .s e8))]))) fuel_mod_Decode_5 5 step_mod_Decode_5 (by kernel_rfl) (fun R K => fun st => mP 36 Ty21 (.o (.p (.o (.p (.o .s) (.p (.o .s) .s))) (.p (.o .s) (.p (.o (.p .s (.p (.o .s) (.p (.o (.p .s (.p .s (.p .s (.p .s (.p (.o .s) .s)))))) .s)))) (.p (.o .s) (.p (.o .s) (.p (.o (.p .s (.p .s (.p (.o (.p .s (.p .s (.p .s (.p .s (.p (.o .s) .s)))))) .s)))) (.p (.o .s) (.p (.o .s) (.p (.o (.p .s (.p (.o (.p .s (.p .s (.p .s (.p .s (.p (.o .s) .s)))))) (.p (.o .s) .s)))) (.p (.o .s) (.p (.o (.p .s (.p (.o (.p .s (.p .s (.p .s (.p .s (.p (.o .s) .s)))))) (.p (.o .s) .s)))) (.p (.o (.p .s (.p (.o .s) .s))) .s))))))))))))) (st 2) fun y2 => mV (.sl 97 (.pair (.int .i64) (.pair (.sl 5 (.int .u8)) .unit))) (.o .s) (st 4) fun y4 => mV (.int .i64) .s (st 5) fun y5 => mP 36 Ty21 (.o (.p (.o (.p (.o .s) (.p (.o .s) .s))) (.p (.o .s) (.p (.o (.p .s (.p (.o .s) (.p (.o (.p .s (.p .s (.p .s (.p .s (.p (.o .s) .s)))))) .s)))) (.p (.o .s) (.p (.o .s) (.p (.o (.p .s (.p .s (.p (.o (.p .s (.p .s (.p .s (.p .s (.p (.o .s) .s)))))) .s)))) (.p (.o .s) (.p (.o .s) (.p (.o (.p .s (.p (.o (.p .s (.p .s (.p .s (.p .s (.p (.o .s) .s)))))) (.p (.o .s) .s)))) (.p (.o .s) (.p (.o (.p .s (.p (.o (.p .s (.p .s (.p .s (.p .s (.p (.o .s) .s)))))) (.p (.o .s) .s)))) (.p (.o (.p .s (.p (.o .s) .s))) .s))))))))))))) (st 6) fun y6 => mV .bool .s (st 7) fun y7 => mV .bool .s (st 8) fun y8 => mLz 4 [] (st 19) (mV (.int .i64) .s (st 20) fun y20 => mV (.int .i64) .s (st 21) fun y21 => loopN (B_mod_Decode_5 (fun e2 e5 e6 e7 e8 => K (.exit 0) (St.ofList [(2, (.v (.ptr 36 Ty21) (.o (.p (.o (.p (.o .s) (.p (.o .s) .s))) (.p (.o .s) (.p (.o (.p .s (.p (.o .s) (.p (.o (.p .s (.p .s (.p .s (.p .s (.p (.o .s) .s)))))) .s)))) (.p (.o .s) (.p (.o .s) (.p (.o (.p .s (.p .s (.p (.o (.p .s (.p .s (.p .s (.p .s (.p (.o .s) .s)))))) .s)))) (.p (.o .s) (.p (.o .s) (.p (.o (.p .s (.p (.o (.p .s (.p .s (.p .s (.p .s (.p (.o .s) .s)))))) (.p (.o .s) .s)))) (.p (.o .s) (.p (.o (.p .s (.p (.o (.p .s (.p .s (.p .s (.p .s (.p (.o .s) .s)))))) (.p (.o .s) .s)))) (.p (.o (.p .s (.p (.o .s) .s))) .s))))))))))))) (some e2))), (5, (.v (.int .i64) .s e5)), (6, (.v (.ptr 36 Ty21) (.o (.p (.o (.p (.o .s) (.p (.o .s) .s))) (.p (.o .s) (.p (.o (.p .s (.p (.o .s) (.p (.o (.p .s (.p .s (.p .s (.p .s (.p (.o .s) .s)))))) .s)))) (.p (.o .s) (.p (.o .s) (.p (.o (.p .s (.p .s (.p (.o (.p .s (.p .s (.p .s (.p .s (.p (.o .s) .s)))))) .s)))) (.p (.o .s) (.p (.o .s) (.p (.o (.p .s (.p (.o (.p .s (.p .s (.p .s (.p .s (.p (.o .s) .s)))))) (.p (.o .s) .s)))) (.p (.o .s) (.p (.o (.p .s (.p (.o (.p .s (.p .s (.p .s (.p .s (.p (.o .s) .s)))))) (.p (.o .s) .s)))) (.p (.o (.p .s (.p (.o .s) .s))) .s))))))))))))) (some e6))), (7, (.v .bool .s e7)), (8, (.v .bool .s e8))]))) (fuel_mod_Decode_5 ⟨y2, y4, y5, y6, y7, y8, y20, y21⟩) ⟨y2, y4, y5, y6, y7, y8, y20, y21⟩)) (fun R st K => by kernel_rfl) ?_
  intro R K st r h
  obtain ⟨y2, hy2, h⟩ := mP_inv h
  obtain ⟨y4, hy4, h⟩ := mV_inv h
  obtain ⟨y5, hy5, h⟩ := mV_inv h
  obtain ⟨y6, hy6, h⟩ := mP_inv h
  obtain ⟨y7, hy7, h⟩ := mV_inv h
  obtain ⟨y8, hy8, h⟩ := mV_inv h
  obtain ⟨hy19, h⟩ := mLz_inv h
  obtain ⟨y20, hy20, h⟩ := mV_inv h
  obtain ⟨y21, hy21, h⟩ := mV_inv h
  exact ⟨⟨y2, y4, y5, y6, y7, y8, y20, y21⟩, only_of_list (ofList_cons hy2 (ofList_cons hy4 (ofList_cons hy5 (ofList_cons hy6 (ofList_cons hy7 (ofList_cons hy8 (ofList_cons hy19 (ofList_cons hy20 (ofList_cons hy21 rfl))))))))), h⟩
theorem loops_mod_Decode : LoopsOk env_mod_Decode lp_mod_Decode inl0 (body Tryz.f13.body) := by
  refine loopsOk_of (fun c hc => ?_) (fun c hc => ?_)
  · rw [show loopsL (body Tryz.f13.body) = [c_mod_Decode_5] by kernel_rfl] at hc
    simp only [List.mem_cons, List.not_mem_nil, or_false] at hc
    rcases hc with rfl
    · exact ok_mod_Decode_5
  · rw [show joinsL env_mod_Decode (body Tryz.f13.body) = [] by kernel_rfl] at hc; cases hc
noncomputable def p_mod_Decode {R : Type} (a0 : List (Int)) (K : It7 → Int → Option R) : Option R :=
  p_sect_Split a0 fun r1 r2 =>
  let v3 := ((List.length r1 : Nat) : Int)
  loopN (B_mod_Decode_5 (fun w4 w5 w6 w7 w8 =>
  let v9 := w5 != (0 : Int)
  cond v9
  (K (([] : List ((List (Int)) × (List (Int)) × Unit)), (([] : List ((List UInt8) × It0)), (([] : List ((Int) × It1)), (([] : List ((Int) × (Bool) × (Int) × Unit)), (([] : List ((Int) × (Bool) × (Int) × Unit)), (([] : List ((Int) × It2)), (([] : List ((List UInt8) × (Int) × (Int) × Unit)), (([] : List (Int)), (([] : List ((Int) × It3)), (([] : List (Int)), (([] : List ((Int) × It3)), (([] : List ((List UInt8) × (List (Int)) × Unit)), ())))))))))))) w5)
  (let v10 := !w7
  cond v10
  (let v11 := ((List.length w6.2.2.1 : Nat) : Int)
  let v12 := decide (v11 > (0 : Int))
  cond v12
  (K (([] : List ((List (Int)) × (List (Int)) × Unit)), (([] : List ((List UInt8) × It0)), (([] : List ((Int) × It1)), (([] : List ((Int) × (Bool) × (Int) × Unit)), (([] : List ((Int) × (Bool) × (Int) × Unit)), (([] : List ((Int) × It2)), (([] : List ((List UInt8) × (Int) × (Int) × Unit)), (([] : List (Int)), (([] : List ((Int) × It3)), (([] : List (Int)), (([] : List ((Int) × It3)), (([] : List ((List UInt8) × (List (Int)) × Unit)), ())))))))))))) (2 : Int))
  (let v13 := !w8
  cond v13
  (let v14 := ((List.length w6.2.2.2.2.2.2.2.2.2.1 : Nat) : Int)
  let v15 := v14 == (1 : Int)
  cond v15
  (cond (inB (0 : Int) (List.length w6.2.2.2.2.2.2.2.2.2.1))
  (let v16 := (List.getD w6.2.2.2.2.2.2.2.2.2.1 (0 : Int).toNat (0 : Int))
  let v17 := v16 != (0 : Int)
  cond v17
  (K (([] : List ((List (Int)) × (List (Int)) × Unit)), (([] : List ((List UInt8) × It0)), (([] : List ((Int) × It1)), (([] : List ((Int) × (Bool) × (Int) × Unit)), (([] : List ((Int) × (Bool) × (Int) × Unit)), (([] : List ((Int) × It2)), (([] : List ((List UInt8) × (Int) × (Int) × Unit)), (([] : List (Int)), (([] : List ((Int) × It3)), (([] : List (Int)), (([] : List ((Int) × It3)), (([] : List ((List UInt8) × (List (Int)) × Unit)), ())))))))))))) (2 : Int))
  (K w6 (0 : Int))) none)
  (K w6 (0 : Int)))
  (K w6 (0 : Int))))
  (let v18 := !w8
  cond v18
  (let v19 := ((List.length w6.2.2.2.2.2.2.2.2.2.1 : Nat) : Int)
  let v20 := v19 == (1 : Int)
  cond v20
  (cond (inB (0 : Int) (List.length w6.2.2.2.2.2.2.2.2.2.1))
  (let v21 := (List.getD w6.2.2.2.2.2.2.2.2.2.1 (0 : Int).toNat (0 : Int))
  let v22 := v21 != (0 : Int)
  cond v22
  (K (([] : List ((List (Int)) × (List (Int)) × Unit)), (([] : List ((List UInt8) × It0)), (([] : List ((Int) × It1)), (([] : List ((Int) × (Bool) × (Int) × Unit)), (([] : List ((Int) × (Bool) × (Int) × Unit)), (([] : List ((Int) × It2)), (([] : List ((List UInt8) × (Int) × (Int) × Unit)), (([] : List (Int)), (([] : List ((Int) × It3)), (([] : List (Int)), (([] : List ((Int) × It3)), (([] : List ((List UInt8) × (List (Int)) × Unit)), ())))))))))))) (2 : Int))
  (K w6 (0 : Int))) none)
  (K w6 (0 : Int)))
  (K w6 (0 : Int)))))) (fuel_mod_Decode_5 ⟨(([] : List ((List (Int)) × (List (Int)) × Unit)), (([] : List ((List UInt8) × It0)), (([] : List ((Int) × It1)), (([] : List ((Int) × (Bool) × (Int) × Unit)), (([] : List ((Int) × (Bool) × (Int) × Unit)), (([] : List ((Int) × It2)), (([] : List ((List UInt8) × (Int) × (Int) × Unit)), (([] : List (Int)), (([] : List ((Int) × It3)), (([] : List (Int)), (([] : List ((Int) × It3)), (([] : List ((List UInt8) × (List (Int)) × Unit)), ())))))))))))), r1, r2, (([] : List ((List (Int)) × (List (Int)) × Unit)), (([] : List ((List UInt8) × It0)), (([] : List ((Int) × It1)), (([] : List ((Int) × (Bool) × (Int) × Unit)), (([] : List ((Int) × (Bool) × (Int) × Unit)), (([] : List ((Int) × It2)), (([] : List ((List UInt8) × (Int) × (Int) × Unit)), (([] : List (Int)), (([] : List ((Int) × It3)), (([] : List (Int)), (([] : List ((Int) × It3)), (([] : List ((List UInt8) × (List (Int)) × Unit)), ())))))))))))), false, false, v3, (0 : Int)⟩) ⟨(([] : List ((List (Int)) × (List (Int)) × Unit)), (([] : List ((List UInt8) × It0)), (([] : List ((Int) × It1)), (([] : List ((Int) × (Bool) × (Int) × Unit)), (([] : List ((Int) × (Bool) × (Int) × Unit)), (([] : List ((Int) × It2)), (([] : List ((List UInt8) × (Int) × (Int) × Unit)), (([] : List (Int)), (([] : List ((Int) × It3)), (([] : List (Int)), (([] : List ((Int) × It3)), (([] : List ((List UInt8) × (List (Int)) × Unit)), ())))))))))))), r1, r2, (([] : List ((List (Int)) × (List (Int)) × Unit)), (([] : List ((List UInt8) × It0)), (([] : List ((Int) × It1)), (([] : List ((Int) × (Bool) × (Int) × Unit)), (([] : List ((Int) × (Bool) × (Int) × Unit)), (([] : List ((Int) × It2)), (([] : List ((List UInt8) × (Int) × (Int) × Unit)), (([] : List (Int)), (([] : List ((Int) × It3)), (([] : List (Int)), (([] : List ((Int) × It3)), (([] : List ((List UInt8) × (List (Int)) × Unit)), ())))))))))))), false, false, v3, (0 : Int)⟩
noncomputable def cs_mod_Decode : CSpec := { ins := [(.val (.sl 5 (.int .u8)) .s)], outs := [(Ty21, (.p (.o (.p (.o .s) (.p (.o .s) .s))) (.p (.o .s) (.p (.o (.p .s (.p (.o .s) (.p (.o (.p .s (.p .s (.p .s (.p .s (.p (.o .s) .s)))))) .s)))) (.p (.o .s) (.p (.o .s) (.p (.o (.p .s (.p .s (.p (.o (.p .s (.p .s (.p .s (.p .s (.p (.o .s) .s)))))) .s)))) (.p (.o .s) (.p (.o .s) (.p (.o (.p .s (.p (.o (.p .s (.p .s (.p .s (.p .s (.p (.o .s) .s)))))) (.p (.o .s) .s)))) (.p (.o .s) (.p (.o (.p .s (.p (.o (.p .s (.p .s (.p .s (.p .s (.p (.o .s) .s)))))) (.p (.o .s) .s)))) (.p (.o (.p .s (.p (.o .s) .s))) .s))))))))))))), ((.int .i64), .s)], fn := fun (d : (List (Int)) × Unit) K _ => p_mod_Decode d.1 (fun r0 r1 => K ((r0, r1, ()) : It7 × Int × Unit) ((()) : Unit)) }
theorem h_mod_Decode : Holds Tryz.prog 13 cs_mod_Decode := by
  refine holds_of (env := env_mod_Decode) (inl := inl0) (fn := Tryz.f13) (code := body Tryz.f13.body) (rs := [(2, some 36), (3, none)]) (lp := lp_mod_Decode) mixed ⟨envTyOk.ty, envTyOk.eq⟩ gamOk_mod_Decode inl0_ok Tryz.func13 (by kernel_rfl) (by kernel_rfl) (by kernel_rfl) (by kernel_rfl) (by kernel_rfl) loops_mod_Decode (by kernel_rfl) ?_
  intro d R K Kp res h
  have : evC env_mod_Decode lp_mod_Decode inl0 (body Tryz.f13.body) (St.start cs_mod_Decode.ins d) (retK env_mod_Decode cs_mod_Decode.ins cs_mod_Decode.outs [(2, some 36), (3, none)] cs_mod_Decode.pan K Kp) = cs_mod_Decode.fn d K Kp := by kernel_rfl
  rw [this]; exact h
-- f14 trammel/load.verdict
noncomputable def om_load_verdict : TypeId → Md
  | 22 => (.o .s)
  | 25 => (.o (.p (.o .s) (.p (.o .s) .s)))
  | 26 => (.o .s)
  | 27 => (.o (.p .s (.p (.o .s) (.p (.o (.p .s (.p .s (.p .s (.p .s (.p (.o .s) .s)))))) .s))))
  | 28 => (.o .s)
  | 29 => (.o (.p .s (.p .s (.p (.o (.p .s (.p .s (.p .s (.p .s (.p (.o .s) .s)))))) .s))))
  | 30 => (.o .s)
  | 31 => (.o .s)
  | 32 => (.o (.p .s (.p (.o (.p .s (.p .s (.p .s (.p .s (.p (.o .s) .s)))))) (.p (.o .s) .s))))
  | 33 => (.o (.p .s (.p (.o (.p .s (.p .s (.p .s (.p .s (.p (.o .s) .s)))))) (.p (.o .s) .s))))
  | 34 => (.o (.p .s (.p (.o .s) .s)))
  | 35 => (.p (.o (.p (.o .s) (.p (.o .s) .s))) (.p (.o .s) (.p (.o (.p .s (.p (.o .s) (.p (.o (.p .s (.p .s (.p .s (.p .s (.p (.o .s) .s)))))) .s)))) (.p (.o .s) (.p (.o .s) (.p (.o (.p .s (.p .s (.p (.o (.p .s (.p .s (.p .s (.p .s (.p (.o .s) .s)))))) .s)))) (.p (.o .s) (.p (.o .s) (.p (.o (.p .s (.p (.o (.p .s (.p .s (.p .s (.p .s (.p (.o .s) .s)))))) (.p (.o .s) .s)))) (.p (.o .s) (.p (.o (.p .s (.p (.o (.p .s (.p .s (.p .s (.p .s (.p (.o .s) .s)))))) (.p (.o .s) .s)))) (.p (.o (.p .s (.p (.o .s) .s))) .s))))))))))))
  | 36 => (.p (.o (.p (.o .s) (.p (.o .s) .s))) (.p (.o .s) (.p (.o (.p .s (.p (.o .s) (.p (.o (.p .s (.p .s (.p .s (.p .s (.p (.o .s) .s)))))) .s)))) (.p (.o .s) (.p (.o .s) (.p (.o (.p .s (.p .s (.p (.o (.p .s (.p .s (.p .s (.p .s (.p (.o .s) .s)))))) .s)))) (.p (.o .s) (.p (.o .s) (.p (.o (.p .s (.p (.o (.p .s (.p .s (.p .s (.p .s (.p (.o .s) .s)))))) (.p (.o .s) .s)))) (.p (.o .s) (.p (.o (.p .s (.p (.o (.p .s (.p .s (.p .s (.p .s (.p (.o .s) .s)))))) (.p (.o .s) .s)))) (.p (.o (.p .s (.p (.o .s) .s))) .s))))))))))))
  | 37 => (.o .s)
  | 38 => (.p (.o (.p (.o .s) (.p (.o .s) .s))) (.p (.o .s) (.p (.o .s) (.p (.o .s) (.p (.o .s) .s)))))
  | 39 => (.p (.o (.p (.o .s) (.p (.o .s) .s))) (.p (.o .s) (.p (.o .s) (.p (.o .s) (.p (.o .s) .s)))))
  | 54 => (.p (.o .s) (.p (.o .s) .s))
  | 55 => (.p (.o .s) (.p (.o .s) .s))
  | 61 => (.o (.p .s (.p .s (.p .s (.p .s (.p (.o .s) .s))))))
  | 62 => (.p .s (.p (.o .s) (.p (.o (.p .s (.p .s (.p .s (.p .s (.p (.o .s) .s)))))) .s)))
  | 63 => (.p .s (.p (.o .s) (.p (.o (.p .s (.p .s (.p .s (.p .s (.p (.o .s) .s)))))) .s)))
  | 65 => (.p .s (.p .s (.p (.o (.p .s (.p .s (.p .s (.p .s (.p (.o .s) .s)))))) .s)))
  | 66 => (.p .s (.p .s (.p (.o (.p .s (.p .s (.p .s (.p .s (.p (.o .s) .s)))))) .s)))
  | 69 => (.p .s (.p (.o (.p .s (.p .s (.p .s (.p .s (.p (.o .s) .s)))))) (.p (.o .s) .s)))
  | 70 => (.p .s (.p (.o (.p .s (.p .s (.p .s (.p .s (.p (.o .s) .s)))))) (.p (.o .s) .s)))
  | 71 => (.p .s (.p (.o (.p .s (.p .s (.p .s (.p .s (.p (.o .s) .s)))))) (.p (.o .s) .s)))
  | 72 => (.p .s (.p (.o (.p .s (.p .s (.p .s (.p .s (.p (.o .s) .s)))))) (.p (.o .s) .s)))
  | 73 => (.p .s (.p (.o .s) .s))
  | 74 => (.p .s (.p (.o .s) .s))
  | 93 => (.o (.p .s (.p (.o .s) .s)))
  | 96 => (.p .s (.p (.o .s) .s))
  | 97 => (.p .s (.p (.o .s) .s))
  | 101 => (.p (.o .s) .s)
  | 102 => (.p (.o .s) .s)
  | 106 => (.p (.p (.o (.p (.o .s) (.p (.o .s) .s))) (.p (.o .s) (.p (.o .s) (.p (.o .s) (.p (.o .s) .s))))) .s)
  | 107 => (.p (.p (.o (.p (.o .s) (.p (.o .s) .s))) (.p (.o .s) (.p (.o .s) (.p (.o .s) (.p (.o .s) .s))))) .s)
  | 117 => (.p .s (.p .s (.p .s (.p .s (.p (.o .s) .s)))))
  | 118 => (.p .s (.p .s (.p .s (.p .s (.p (.o .s) .s)))))
  | 154 => (.o (.p .s (.p (.o .s) (.p (.o .s) .s))))
  | 155 => (.p (.p (.o (.p (.o .s) (.p (.o .s) .s))) (.p (.o .s) (.p (.o .s) (.p (.o .s) (.p (.o .s) .s))))) (.p (.o .s) (.p (.o .s) (.p (.o (.p .s (.p (.o .s) (.p (.o .s) .s)))) .s))))
  | 156 => (.p (.p (.o (.p (.o .s) (.p (.o .s) .s))) (.p (.o .s) (.p (.o .s) (.p (.o .s) (.p (.o .s) .s))))) (.p (.o .s) (.p (.o .s) (.p (.o (.p .s (.p (.o .s) (.p (.o .s) .s)))) .s))))
  | 177 => (.o .s)
  | 178 => (.p (.o .s) .s)
  | 179 => (.p (.o .s) .s)
  | 183 => (.o (.o .s))
  | 185 => (.p .s (.p (.o .s) (.p (.o .s) .s)))
  | 186 => (.p .s (.p (.o .s) (.p (.o .s) .s)))
  | 212 => (.p (.o .s) .s)
  | 213 => (.p (.o .s) .s)
  | _ => .s
noncomputable def env_load_verdict : Env := { ty := envTy, eq := envEq, gam := noG, n := Tryz.f14.ntmps, om := om_load_verdict }
noncomputable def p_load_verdict {R : Type} (a0 : Int) (a1 : Int) (K : Int → Option R) : Option R :=
  let v1 := a0 == (3 : Int)
  cond v1
  (K (2 : Int))
  (let v2 := a0 == (4 : Int)
  cond v2
  (K (2 : Int))
  (K a1))
noncomputable def cs_load_verdict : CSpec := { ins := [(.val (.int .i64) .s), (.val (.int .i64) .s)], outs := [((.int .i64), .s)], fn := fun (d : Int × Int × Unit) K _ => p_load_verdict d.1 d.2.1 (fun r0 => K ((r0, ()) : Int × Unit) ((()) : Unit)) }
theorem h_load_verdict : Holds Tryz.prog 14 cs_load_verdict := by
  refine holds_of (env := env_load_verdict) (inl := inl0) (fn := Tryz.f14) (code := body Tryz.f14.body) (rs := [(4, none)]) (lp := lp0) mixed ⟨envTyOk.ty, envTyOk.eq⟩ (fun _ _ _ h => by cases h) inl0_ok Tryz.func14 (by kernel_rfl) (by kernel_rfl) (by kernel_rfl) (by kernel_rfl) (by kernel_rfl) (loopsOk_none (by kernel_rfl) (by kernel_rfl)) (by kernel_rfl) ?_
  intro d R K Kp res h
  have : evC env_load_verdict lp0 inl0 (body Tryz.f14.body) (St.start cs_load_verdict.ins d) (retK env_load_verdict cs_load_verdict.ins cs_load_verdict.outs [(4, none)] cs_load_verdict.pan K Kp) = cs_load_verdict.fn d K Kp := by kernel_rfl
  rw [this]; exact h
-- f52 trammel/ctx.has
noncomputable def om_ctx_has : TypeId → Md
  | 22 => (.o .s)
  | 25 => (.o (.p (.o .s) (.p (.o .s) .s)))
  | 26 => (.o .s)
  | 27 => (.o (.p .s (.p (.o .s) (.p (.o (.p .s (.p .s (.p .s (.p .s (.p (.o .s) .s)))))) .s))))
  | 28 => (.o .s)
  | 29 => (.o (.p .s (.p .s (.p (.o (.p .s (.p .s (.p .s (.p .s (.p (.o .s) .s)))))) .s))))
  | 30 => (.o .s)
  | 31 => (.o .s)
  | 32 => (.o (.p .s (.p (.o (.p .s (.p .s (.p .s (.p .s (.p (.o .s) .s)))))) (.p (.o .s) .s))))
  | 33 => (.o (.p .s (.p (.o (.p .s (.p .s (.p .s (.p .s (.p (.o .s) .s)))))) (.p (.o .s) .s))))
  | 34 => (.o (.p .s (.p (.o .s) .s)))
  | 35 => (.p (.o (.p (.o .s) (.p (.o .s) .s))) (.p (.o .s) (.p (.o (.p .s (.p (.o .s) (.p (.o (.p .s (.p .s (.p .s (.p .s (.p (.o .s) .s)))))) .s)))) (.p (.o .s) (.p (.o .s) (.p (.o (.p .s (.p .s (.p (.o (.p .s (.p .s (.p .s (.p .s (.p (.o .s) .s)))))) .s)))) (.p (.o .s) (.p (.o .s) (.p (.o (.p .s (.p (.o (.p .s (.p .s (.p .s (.p .s (.p (.o .s) .s)))))) (.p (.o .s) .s)))) (.p (.o .s) (.p (.o (.p .s (.p (.o (.p .s (.p .s (.p .s (.p .s (.p (.o .s) .s)))))) (.p (.o .s) .s)))) (.p (.o (.p .s (.p (.o .s) .s))) .s))))))))))))
  | 36 => (.p (.o (.p (.o .s) (.p (.o .s) .s))) (.p (.o .s) (.p (.o (.p .s (.p (.o .s) (.p (.o (.p .s (.p .s (.p .s (.p .s (.p (.o .s) .s)))))) .s)))) (.p (.o .s) (.p (.o .s) (.p (.o (.p .s (.p .s (.p (.o (.p .s (.p .s (.p .s (.p .s (.p (.o .s) .s)))))) .s)))) (.p (.o .s) (.p (.o .s) (.p (.o (.p .s (.p (.o (.p .s (.p .s (.p .s (.p .s (.p (.o .s) .s)))))) (.p (.o .s) .s)))) (.p (.o .s) (.p (.o (.p .s (.p (.o (.p .s (.p .s (.p .s (.p .s (.p (.o .s) .s)))))) (.p (.o .s) .s)))) (.p (.o (.p .s (.p (.o .s) .s))) .s))))))))))))
  | 37 => (.o .s)
  | 38 => (.p (.o (.p (.o .s) (.p (.o .s) .s))) (.p (.o .s) (.p (.o .s) (.p (.o .s) (.p (.o .s) .s)))))
  | 39 => (.p (.o (.p (.o .s) (.p (.o .s) .s))) (.p (.o .s) (.p (.o .s) (.p (.o .s) (.p (.o .s) .s)))))
  | 54 => (.p (.o .s) (.p (.o .s) .s))
  | 55 => (.p (.o .s) (.p (.o .s) .s))
  | 61 => (.o (.p .s (.p .s (.p .s (.p .s (.p (.o .s) .s))))))
  | 62 => (.p .s (.p (.o .s) (.p (.o (.p .s (.p .s (.p .s (.p .s (.p (.o .s) .s)))))) .s)))
  | 63 => (.p .s (.p (.o .s) (.p (.o (.p .s (.p .s (.p .s (.p .s (.p (.o .s) .s)))))) .s)))
  | 65 => (.p .s (.p .s (.p (.o (.p .s (.p .s (.p .s (.p .s (.p (.o .s) .s)))))) .s)))
  | 66 => (.p .s (.p .s (.p (.o (.p .s (.p .s (.p .s (.p .s (.p (.o .s) .s)))))) .s)))
  | 69 => (.p .s (.p (.o (.p .s (.p .s (.p .s (.p .s (.p (.o .s) .s)))))) (.p (.o .s) .s)))
  | 70 => (.p .s (.p (.o (.p .s (.p .s (.p .s (.p .s (.p (.o .s) .s)))))) (.p (.o .s) .s)))
  | 71 => (.p .s (.p (.o (.p .s (.p .s (.p .s (.p .s (.p (.o .s) .s)))))) (.p (.o .s) .s)))
  | 72 => (.p .s (.p (.o (.p .s (.p .s (.p .s (.p .s (.p (.o .s) .s)))))) (.p (.o .s) .s)))
  | 73 => (.p .s (.p (.o .s) .s))
  | 74 => (.p .s (.p (.o .s) .s))
  | 93 => (.o (.p .s (.p (.o .s) .s)))
  | 96 => (.p .s (.p (.o .s) .s))
  | 97 => (.p .s (.p (.o .s) .s))
  | 101 => (.p (.o .s) .s)
  | 102 => (.p (.o .s) .s)
  | 106 => (.p (.p (.o (.p (.o .s) (.p (.o .s) .s))) (.p (.o .s) (.p (.o .s) (.p (.o .s) (.p (.o .s) .s))))) .s)
  | 107 => (.p (.p (.o (.p (.o .s) (.p (.o .s) .s))) (.p (.o .s) (.p (.o .s) (.p (.o .s) (.p (.o .s) .s))))) .s)
  | 117 => (.p .s (.p .s (.p .s (.p .s (.p (.o .s) .s)))))
  | 118 => (.p .s (.p .s (.p .s (.p .s (.p (.o .s) .s)))))
  | 154 => (.o (.p .s (.p (.o .s) (.p (.o .s) .s))))
  | 155 => (.p (.p (.o (.p (.o .s) (.p (.o .s) .s))) (.p (.o .s) (.p (.o .s) (.p (.o .s) (.p (.o .s) .s))))) (.p (.o .s) (.p (.o .s) (.p (.o (.p .s (.p (.o .s) (.p (.o .s) .s)))) .s))))
  | 156 => (.p (.p (.o (.p (.o .s) (.p (.o .s) .s))) (.p (.o .s) (.p (.o .s) (.p (.o .s) (.p (.o .s) .s))))) (.p (.o .s) (.p (.o .s) (.p (.o (.p .s (.p (.o .s) (.p (.o .s) .s)))) .s))))
  | 177 => (.o .s)
  | 178 => (.p (.o .s) .s)
  | 179 => (.p (.o .s) .s)
  | 183 => (.o (.o .s))
  | 185 => (.p .s (.p (.o .s) (.p (.o .s) .s)))
  | 186 => (.p .s (.p (.o .s) (.p (.o .s) .s)))
  | 212 => (.p (.o .s) .s)
  | 213 => (.p (.o .s) .s)
  | _ => .s
noncomputable def env_ctx_has : Env := { ty := envTy, eq := envEq, gam := noG, n := Tryz.f52.ntmps, om := om_ctx_has }
noncomputable def p_ctx_has {R : Type} (a0 : Int) (a1 : Int) (K : Bool → Option R) : Option R :=
  let v1 := decide (a0 ≥ (0 : Int))
  cond v1
  (let v2 := decide (a0 < a1)
  K v2)
  (K false)
noncomputable def cs_ctx_has : CSpec := { ins := [(.val (.int .i64) .s), (.val (.int .i64) .s)], outs := [(.bool, .s)], fn := fun (d : Int × Int × Unit) K _ => p_ctx_has d.1 d.2.1 (fun r0 => K ((r0, ()) : Bool × Unit) ((()) : Unit)) }
theorem h_ctx_has : Holds Tryz.prog 52 cs_ctx_has := by
  refine holds_of (env := env_ctx_has) (inl := inl0) (fn := Tryz.f52) (code := body Tryz.f52.body) (rs := [(4, none)]) (lp := lp0) mixed ⟨envTyOk.ty, envTyOk.eq⟩ (fun _ _ _ h => by cases h) inl0_ok Tryz.func52 (by kernel_rfl) (by kernel_rfl) (by kernel_rfl) (by kernel_rfl) (by kernel_rfl) (loopsOk_none (by kernel_rfl) (by kernel_rfl)) (by kernel_rfl) ?_
  intro d R K Kp res h
  have : evC env_ctx_has lp0 inl0 (body Tryz.f52.body) (St.start cs_ctx_has.ins d) (retK env_ctx_has cs_ctx_has.ins cs_ctx_has.outs [(4, none)] cs_ctx_has.pan K Kp) = cs_ctx_has.fn d K Kp := by kernel_rfl
  rw [this]; exact h
-- f50 (*trammel/ctx.checker).want
noncomputable def om_ctx_checker_want : TypeId → Md
  | 22 => (.o .s)
  | 25 => (.o (.p (.o .s) (.p (.o .s) .s)))
  | 26 => (.o .s)
  | 27 => (.o (.p .s (.p (.o .s) (.p (.o (.p .s (.p .s (.p .s (.p .s (.p (.o .s) .s)))))) .s))))
  | 28 => (.o .s)
  | 29 => (.o (.p .s (.p .s (.p (.o (.p .s (.p .s (.p .s (.p .s (.p (.o .s) .s)))))) .s))))
  | 30 => (.o .s)
  | 31 => (.o .s)
  | 32 => (.o (.p .s (.p (.o (.p .s (.p .s (.p .s (.p .s (.p (.o .s) .s)))))) (.p (.o .s) .s))))
  | 33 => (.o (.p .s (.p (.o (.p .s (.p .s (.p .s (.p .s (.p (.o .s) .s)))))) (.p (.o .s) .s))))
  | 34 => (.o (.p .s (.p (.o .s) .s)))
  | 35 => (.p (.o (.p (.o .s) (.p (.o .s) .s))) (.p (.o .s) (.p (.o (.p .s (.p (.o .s) (.p (.o (.p .s (.p .s (.p .s (.p .s (.p (.o .s) .s)))))) .s)))) (.p (.o .s) (.p (.o .s) (.p (.o (.p .s (.p .s (.p (.o (.p .s (.p .s (.p .s (.p .s (.p (.o .s) .s)))))) .s)))) (.p (.o .s) (.p (.o .s) (.p (.o (.p .s (.p (.o (.p .s (.p .s (.p .s (.p .s (.p (.o .s) .s)))))) (.p (.o .s) .s)))) (.p (.o .s) (.p (.o (.p .s (.p (.o (.p .s (.p .s (.p .s (.p .s (.p (.o .s) .s)))))) (.p (.o .s) .s)))) (.p (.o (.p .s (.p (.o .s) .s))) .s))))))))))))
  | 36 => (.p (.o (.p (.o .s) (.p (.o .s) .s))) (.p (.o .s) (.p (.o (.p .s (.p (.o .s) (.p (.o (.p .s (.p .s (.p .s (.p .s (.p (.o .s) .s)))))) .s)))) (.p (.o .s) (.p (.o .s) (.p (.o (.p .s (.p .s (.p (.o (.p .s (.p .s (.p .s (.p .s (.p (.o .s) .s)))))) .s)))) (.p (.o .s) (.p (.o .s) (.p (.o (.p .s (.p (.o (.p .s (.p .s (.p .s (.p .s (.p (.o .s) .s)))))) (.p (.o .s) .s)))) (.p (.o .s) (.p (.o (.p .s (.p (.o (.p .s (.p .s (.p .s (.p .s (.p (.o .s) .s)))))) (.p (.o .s) .s)))) (.p (.o (.p .s (.p (.o .s) .s))) .s))))))))))))
  | 37 => (.o .s)
  | 38 => (.p (.o (.p (.o .s) (.p (.o .s) .s))) (.p (.o .s) (.p (.o .s) (.p (.o .s) (.p (.o .s) .s)))))
  | 39 => (.p (.o (.p (.o .s) (.p (.o .s) .s))) (.p (.o .s) (.p (.o .s) (.p (.o .s) (.p (.o .s) .s)))))
  | 54 => (.p (.o .s) (.p (.o .s) .s))
  | 55 => (.p (.o .s) (.p (.o .s) .s))
  | 61 => (.o (.p .s (.p .s (.p .s (.p .s (.p (.o .s) .s))))))
  | 62 => (.p .s (.p (.o .s) (.p (.o (.p .s (.p .s (.p .s (.p .s (.p (.o .s) .s)))))) .s)))
  | 63 => (.p .s (.p (.o .s) (.p (.o (.p .s (.p .s (.p .s (.p .s (.p (.o .s) .s)))))) .s)))
  | 65 => (.p .s (.p .s (.p (.o (.p .s (.p .s (.p .s (.p .s (.p (.o .s) .s)))))) .s)))
  | 66 => (.p .s (.p .s (.p (.o (.p .s (.p .s (.p .s (.p .s (.p (.o .s) .s)))))) .s)))
  | 69 => (.p .s (.p (.o (.p .s (.p .s (.p .s (.p .s (.p (.o .s) .s)))))) (.p (.o .s) .s)))
  | 70 => (.p .s (.p (.o (.p .s (.p .s (.p .s (.p .s (.p (.o .s) .s)))))) (.p (.o .s) .s)))
  | 71 => (.p .s (.p (.o (.p .s (.p .s (.p .s (.p .s (.p (.o .s) .s)))))) (.p (.o .s) .s)))
  | 72 => (.p .s (.p (.o (.p .s (.p .s (.p .s (.p .s (.p (.o .s) .s)))))) (.p (.o .s) .s)))
  | 73 => (.p .s (.p (.o .s) .s))
  | 74 => (.p .s (.p (.o .s) .s))
  | 93 => (.o (.p .s (.p (.o .s) .s)))
  | 96 => (.p .s (.p (.o .s) .s))
  | 97 => (.p .s (.p (.o .s) .s))
  | 101 => (.p (.o .s) .s)
  | 102 => (.p (.o .s) .s)
  | 106 => (.p (.p (.o (.p (.o .s) (.p (.o .s) .s))) (.p (.o .s) (.p (.o .s) (.p (.o .s) (.p (.o .s) .s))))) .s)
  | 107 => (.p (.p (.o (.p (.o .s) (.p (.o .s) .s))) (.p (.o .s) (.p (.o .s) (.p (.o .s) (.p (.o .s) .s))))) .s)
  | 117 => (.p .s (.p .s (.p .s (.p .s (.p (.o .s) .s)))))
  | 118 => (.p .s (.p .s (.p .s (.p .s (.p (.o .s) .s)))))
  | 154 => (.o (.p .s (.p (.o .s) (.p (.o .s) .s))))
  | 155 => (.p (.p (.o (.p (.o .s) (.p (.o .s) .s))) (.p (.o .s) (.p (.o .s) (.p (.o .s) (.p (.o .s) .s))))) (.p (.o .s) (.p (.o .s) (.p (.o (.p .s (.p (.o .s) (.p (.o .s) .s)))) .s))))
  | 156 => (.p (.p (.o (.p (.o .s) (.p (.o .s) .s))) (.p (.o .s) (.p (.o .s) (.p (.o .s) (.p (.o .s) .s))))) (.p (.o .s) (.p (.o .s) (.p (.o (.p .s (.p (.o .s) (.p (.o .s) .s)))) .s))))
  | 177 => (.o .s)
  | 178 => (.p (.o .s) .s)
  | 179 => (.p (.o .s) .s)
  | 183 => (.o (.o .s))
  | 185 => (.p .s (.p (.o .s) (.p (.o .s) .s)))
  | 186 => (.p .s (.p (.o .s) (.p (.o .s) .s)))
  | 212 => (.p (.o .s) .s)
  | 213 => (.p (.o .s) .s)
  | _ => .s
noncomputable def env_ctx_checker_want : Env := { ty := envTy, eq := envEq, gam := noG, n := Tryz.f50.ntmps, om := om_ctx_checker_want }
noncomputable def p_ctx_checker_want {R : Type} (a0 : It24) (a1 : Bool) (a2 : Int) (K : It24 → Option R) : Option R :=
  let v1 := !a1
  cond v1
  (let v2 := a0.2.1 == (0 : Int)
  cond v2
  (K (a0.1, (a2, a0.2.2)))
  (K a0))
  (K a0)
noncomputable def cs_ctx_checker_want : CSpec := { ins := [(.ref (.pair (.pair Ty8 Ty28) (.pair (.int .i64) .unit)) .s .s), (.val .bool .s), (.val (.int .i64) .s)], outs := [], fn := fun (d : It24 × Bool × Int × Unit) K _ => p_ctx_checker_want d.1 d.2.1 d.2.2.1 (fun b0 => K ((()) : Unit) ((b0, ()) : It24 × Unit)) }
theorem h_ctx_checker_want : Holds Tryz.prog 50 cs_ctx_checker_want := by
  refine holds_of (env := env_ctx_checker_want) (inl := inl0) (fn := Tryz.f50) (code := body Tryz.f50.body) (rs := []) (lp := lp0) mixed ⟨envTyOk.ty, envTyOk.eq⟩ (fun _ _ _ h => by cases h) inl0_ok Tryz.func50 (by kernel_rfl) (by kernel_rfl) (by kernel_rfl) (by kernel_rfl) (by kernel_rfl) (loopsOk_none (by kernel_rfl) (by kernel_rfl)) (by kernel_rfl) ?_
  intro d R K Kp res h
  have : evC env_ctx_checker_want lp0 inl0 (body Tryz.f50.body) (St.start cs_ctx_checker_want.ins d) (retK env_ctx_checker_want cs_ctx_checker_want.ins cs_ctx_checker_want.outs [] cs_ctx_checker_want.pan K Kp) = cs_ctx_checker_want.fn d K Kp := by kernel_rfl
  rw [this]; exact h
-- f50 (*trammel/ctx.checker).want
noncomputable def om_ctx_checker_wantm1 : TypeId → Md
  | 22 => (.o .s)
  | 25 => (.o (.p (.o .s) (.p (.o .s) .s)))
  | 26 => (.o .s)
  | 27 => (.o (.p .s (.p (.o .s) (.p (.o (.p .s (.p .s (.p .s (.p .s (.p (.o .s) .s)))))) .s))))
  | 28 => (.o .s)
  | 29 => (.o (.p .s (.p .s (.p (.o (.p .s (.p .s (.p .s (.p .s (.p (.o .s) .s)))))) .s))))
  | 30 => (.o .s)
  | 31 => (.o .s)
  | 32 => (.o (.p .s (.p (.o (.p .s (.p .s (.p .s (.p .s (.p (.o .s) .s)))))) (.p (.o .s) .s))))
  | 33 => (.o (.p .s (.p (.o (.p .s (.p .s (.p .s (.p .s (.p (.o .s) .s)))))) (.p (.o .s) .s))))
  | 34 => (.o (.p .s (.p (.o .s) .s)))
  | 35 => (.p (.o (.p (.o .s) (.p (.o .s) .s))) (.p (.o .s) (.p (.o (.p .s (.p (.o .s) (.p (.o (.p .s (.p .s (.p .s (.p .s (.p (.o .s) .s)))))) .s)))) (.p (.o .s) (.p (.o .s) (.p (.o (.p .s (.p .s (.p (.o (.p .s (.p .s (.p .s (.p .s (.p (.o .s) .s)))))) .s)))) (.p (.o .s) (.p (.o .s) (.p (.o (.p .s (.p (.o (.p .s (.p .s (.p .s (.p .s (.p (.o .s) .s)))))) (.p (.o .s) .s)))) (.p (.o .s) (.p (.o (.p .s (.p (.o (.p .s (.p .s (.p .s (.p .s (.p (.o .s) .s)))))) (.p (.o .s) .s)))) (.p (.o (.p .s (.p (.o .s) .s))) .s))))))))))))
  | 36 => (.p (.o (.p (.o .s) (.p (.o .s) .s))) (.p (.o .s) (.p (.o (.p .s (.p (.o .s) (.p (.o (.p .s (.p .s (.p .s (.p .s (.p (.o .s) .s)))))) .s)))) (.p (.o .s) (.p (.o .s) (.p (.o (.p .s (.p .s (.p (.o (.p .s (.p .s (.p .s (.p .s (.p (.o .s) .s)))))) .s)))) (.p (.o .s) (.p (.o .s) (.p (.o (.p .s (.p (.o (.p .s (.p .s (.p .s (.p .s (.p (.o .s) .s)))))) (.p (.o .s) .s)))) (.p (.o .s) (.p (.o (.p .s (.p (.o (.p .s (.p .s (.p .s (.p .s (.p (.o .s) .s)))))) (.p (.o .s) .s)))) (.p (.o (.p .s (.p (.o .s) .s))) .s))))))))))))
  | 37 => (.o .s)
  | 38 => (.p (.o (.p (.o .s) (.p (.o .s) .s))) (.p (.o .s) (.p (.o .s) (.p (.o .s) (.p (.o .s) .s)))))
  | 39 => (.p (.o (.p (.o .s) (.p (.o .s) .s))) (.p (.o .s) (.p (.o .s) (.p (.o .s) (.p (.o .s) .s)))))
  | 54 => (.p (.o .s) (.p (.o .s) .s))
  | 55 => (.p (.o .s) (.p (.o .s) .s))
  | 61 => (.o (.p .s (.p .s (.p .s (.p .s (.p (.o .s) .s))))))
  | 62 => (.p .s (.p (.o .s) (.p (.o (.p .s (.p .s (.p .s (.p .s (.p (.o .s) .s)))))) .s)))
  | 63 => (.p .s (.p (.o .s) (.p (.o (.p .s (.p .s (.p .s (.p .s (.p (.o .s) .s)))))) .s)))
  | 65 => (.p .s (.p .s (.p (.o (.p .s (.p .s (.p .s (.p .s (.p (.o .s) .s)))))) .s)))
  | 66 => (.p .s (.p .s (.p (.o (.p .s (.p .s (.p .s (.p .s (.p (.o .s) .s)))))) .s)))
  | 69 => (.p .s (.p (.o (.p .s (.p .s (.p .s (.p .s (.p (.o .s) .s)))))) (.p (.o .s) .s)))
  | 70 => (.p .s (.p (.o (.p .s (.p .s (.p .s (.p .s (.p (.o .s) .s)))))) (.p (.o .s) .s)))
  | 71 => (.p .s (.p (.o (.p .s (.p .s (.p .s (.p .s (.p (.o .s) .s)))))) (.p (.o .s) .s)))
  | 72 => (.p .s (.p (.o (.p .s (.p .s (.p .s (.p .s (.p (.o .s) .s)))))) (.p (.o .s) .s)))
  | 73 => (.p .s (.p (.o .s) .s))
  | 74 => (.p .s (.p (.o .s) .s))
  | 93 => (.o (.p .s (.p (.o .s) .s)))
  | 96 => (.p .s (.p (.o .s) .s))
  | 97 => (.p .s (.p (.o .s) .s))
  | 101 => (.p (.o .s) .s)
  | 102 => (.p (.o .s) .s)
  | 106 => (.p (.p (.o (.p (.o .s) (.p (.o .s) .s))) (.p (.o .s) (.p (.o .s) (.p (.o .s) (.p (.o .s) .s))))) .s)
  | 107 => (.p (.p (.o (.p (.o .s) (.p (.o .s) .s))) (.p (.o .s) (.p (.o .s) (.p (.o .s) (.p (.o .s) .s))))) .s)
  | 117 => (.p .s (.p .s (.p .s (.p .s (.p (.o .s) .s)))))
  | 118 => (.p .s (.p .s (.p .s (.p .s (.p (.o .s) .s)))))
  | 154 => (.o (.p .s (.p (.o .s) (.p (.o .s) .s))))
  | 155 => (.p (.p (.o (.p (.o .s) (.p (.o .s) .s))) (.p (.o .s) (.p (.o .s) (.p (.o .s) (.p (.o .s) .s))))) (.p (.o .s) (.p (.o .s) (.p (.o (.p .s (.p (.o .s) (.p (.o .s) .s)))) .s))))
  | 156 => (.p (.p (.o (.p (.o .s) (.p (.o .s) .s))) (.p (.o .s) (.p (.o .s) (.p (.o .s) (.p (.o .s) .s))))) (.p (.o .s) (.p (.o .s) (.p (.o (.p .s (.p (.o .s) (.p (.o .s) .s)))) .s))))
  | 177 => (.o .s)
  | 178 => (.p (.o .s) .s)
  | 179 => (.p (.o .s) .s)
  | 183 => (.o (.o .s))
  | 185 => (.p .s (.p (.o .s) (.p (.o .s) .s)))
  | 186 => (.p .s (.p (.o .s) (.p (.o .s) .s)))
  | 212 => (.p (.o .s) .s)
  | 213 => (.p (.o .s) .s)
  | _ => .s
noncomputable def env_ctx_checker_wantm1 : Env := { ty := envTy, eq := envEq, gam := noG, n := Tryz.f50.ntmps, om := om_ctx_checker_wantm1 }
noncomputable def p_ctx_checker_wantm1 {R : Type} (a0 : It24) (a1 : Bool) (a2 : Int) (K : It24 → Option R) : Option R :=
  let v1 := !a1
  cond v1
  (let v2 := a0.2.1 == (0 : Int)
  cond v2
  (K (a0.1, (a2, a0.2.2)))
  (K a0))
  (K a0)
noncomputable def cs_ctx_checker_wantm1 : CSpec := { ins := [(.ref (.pair (.pair Ty8 Ty28) (.pair (.int .i64) .unit)) (.p (.p (.o (.p (.o .s) (.p (.o .s) .s))) (.p (.o .s) (.p (.o .s) (.p (.o .s) (.p (.o .s) .s))))) .s) (.p (.p (.o (.p (.o .s) (.p (.o .s) .s))) (.p (.o .s) (.p (.o .s) (.p (.o .s) (.p (.o .s) .s))))) .s)), (.val .bool .s), (.val (.int .i64) .s)], outs := [], fn := fun (d : It24 × Bool × Int × Unit) K _ => p_ctx_checker_wantm1 d.1 d.2.1 d.2.2.1 (fun b0 => K ((()) : Unit) ((b0, ()) : It24 × Unit)) }
theorem h_ctx_checker_wantm1 : Holds Tryz.prog 50 cs_ctx_checker_wantm1 := by
  refine holds_of (env := env_ctx_checker_wantm1) (inl := inl0) (fn := Tryz.f50) (code := body Tryz.f50.body) (rs := []) (lp := lp0) mixed ⟨envTyOk.ty, envTyOk.eq⟩ (fun _ _ _ h => by cases h) inl0_ok Tryz.func50 (by kernel_rfl) (by kernel_rfl) (by kernel_rfl) (by kernel_rfl) (by kernel_rfl) (loopsOk_none (by kernel_rfl) (by kernel_rfl)) (by kernel_rfl) ?_
  intro d R K Kp res h
  have : evC env_ctx_checker_wantm1 lp0 inl0 (body Tryz.f50.body) (St.start cs_ctx_checker_wantm1.ins d) (retK env_ctx_checker_wantm1 cs_ctx_checker_wantm1.ins cs_ctx_checker_wantm1.outs [] cs_ctx_checker_wantm1.pan K Kp) = cs_ctx_checker_wantm1.fn d K Kp := by kernel_rfl
  rw [this]; exact h
-- f46 (*trammel/ctx.checker).imports (in part: skipped f76 | skipped f77)
noncomputable def gam_ctx_checker_imports : FuncId → List FuncId → Option CSpec
  | 52, [] => some cs_ctx_has
  | 50, [] => some cs_ctx_checker_wantm1
  | _, _ => none
noncomputable def fs_ctx_checker_imports : Nat → Bool
  | 5 => true
  | _ => false
noncomputable def js_ctx_checker_imports : Nat → Bool
  | 6 => true
  | 7 => true
  | 10 => true
  | 13 => true
  | 16 => true
  | 17 => true
  | _ => false
noncomputable def lv_ctx_checker_imports : Nat → Option (List Nat)
  | 0 => some [0, 1, 1000000]
  | 1 => some [0, 6, 7, 8, 1000000]
  | 2 => some [0, 6, 7, 8, 1000000]
  | 3 => some [0, 5, 6, 7, 8, 1000000]
  | 4 => some [0, 5, 6, 7, 8, 13, 1000000]
  | 5 => some [0, 5, 6, 7, 8, 1000000]
  | 6 => some [0, 5, 6, 7, 8, 1000000]
  | 7 => some [0, 6, 7, 8, 1000000]
  | 8 => some [0, 5, 6, 7, 8, 13, 1000000]
  | 9 => some [0, 5, 6, 7, 8, 1000000]
  | 11 => some [0, 5, 6, 7, 8, 13, 1000000]
  | 12 => some [0, 5, 6, 7, 8, 1000000]
  | 14 => some [0, 5, 6, 7, 8, 13, 1000000]
  | 15 => some [0, 5, 6, 7, 8, 1000000]
  | 16 => some [0, 6, 7, 8, 1000000]
  | 17 => some [0, 6, 7, 8, 1000000]
  | _ => none
noncomputable def om_ctx_checker_imports : TypeId → Md
  | 22 => (.o .s)
  | 25 => (.o (.p (.o .s) (.p (.o .s) .s)))
  | 26 => (.o .s)
  | 27 => (.o (.p .s (.p (.o .s) (.p (.o (.p .s (.p .s (.p .s (.p .s (.p (.o .s) .s)))))) .s))))
  | 28 => (.o .s)
  | 29 => (.o (.p .s (.p .s (.p (.o (.p .s (.p .s (.p .s (.p .s (.p (.o .s) .s)))))) .s))))
  | 30 => (.o .s)
  | 31 => (.o .s)
  | 32 => (.o (.p .s (.p (.o (.p .s (.p .s (.p .s (.p .s (.p (.o .s) .s)))))) (.p (.o .s) .s))))
  | 33 => (.o (.p .s (.p (.o (.p .s (.p .s (.p .s (.p .s (.p (.o .s) .s)))))) (.p (.o .s) .s))))
  | 34 => (.o (.p .s (.p (.o .s) .s)))
  | 35 => (.p (.o (.p (.o .s) (.p (.o .s) .s))) (.p (.o .s) (.p (.o (.p .s (.p (.o .s) (.p (.o (.p .s (.p .s (.p .s (.p .s (.p (.o .s) .s)))))) .s)))) (.p (.o .s) (.p (.o .s) (.p (.o (.p .s (.p .s (.p (.o (.p .s (.p .s (.p .s (.p .s (.p (.o .s) .s)))))) .s)))) (.p (.o .s) (.p (.o .s) (.p (.o (.p .s (.p (.o (.p .s (.p .s (.p .s (.p .s (.p (.o .s) .s)))))) (.p (.o .s) .s)))) (.p (.o .s) (.p (.o (.p .s (.p (.o (.p .s (.p .s (.p .s (.p .s (.p (.o .s) .s)))))) (.p (.o .s) .s)))) (.p (.o (.p .s (.p (.o .s) .s))) .s))))))))))))
  | 36 => (.p (.o (.p (.o .s) (.p (.o .s) .s))) (.p (.o .s) (.p (.o (.p .s (.p (.o .s) (.p (.o (.p .s (.p .s (.p .s (.p .s (.p (.o .s) .s)))))) .s)))) (.p (.o .s) (.p (.o .s) (.p (.o (.p .s (.p .s (.p (.o (.p .s (.p .s (.p .s (.p .s (.p (.o .s) .s)))))) .s)))) (.p (.o .s) (.p (.o .s) (.p (.o (.p .s (.p (.o (.p .s (.p .s (.p .s (.p .s (.p (.o .s) .s)))))) (.p (.o .s) .s)))) (.p (.o .s) (.p (.o (.p .s (.p (.o (.p .s (.p .s (.p .s (.p .s (.p (.o .s) .s)))))) (.p (.o .s) .s)))) (.p (.o (.p .s (.p (.o .s) .s))) .s))))))))))))
  | 37 => (.o .s)
  | 38 => (.p (.o (.p (.o .s) (.p (.o .s) .s))) (.p (.o .s) (.p (.o .s) (.p (.o .s) (.p (.o .s) .s)))))
  | 39 => (.p (.o (.p (.o .s) (.p (.o .s) .s))) (.p (.o .s) (.p (.o .s) (.p (.o .s) (.p (.o .s) .s)))))
  | 54 => (.p (.o .s) (.p (.o .s) .s))
  | 55 => (.p (.o .s) (.p (.o .s) .s))
  | 61 => (.o (.p .s (.p .s (.p .s (.p .s (.p (.o .s) .s))))))
  | 62 => (.p .s (.p (.o .s) (.p (.o (.p .s (.p .s (.p .s (.p .s (.p (.o .s) .s)))))) .s)))
  | 63 => (.p .s (.p (.o .s) (.p (.o (.p .s (.p .s (.p .s (.p .s (.p (.o .s) .s)))))) .s)))
  | 65 => (.p .s (.p .s (.p (.o (.p .s (.p .s (.p .s (.p .s (.p (.o .s) .s)))))) .s)))
  | 66 => (.p .s (.p .s (.p (.o (.p .s (.p .s (.p .s (.p .s (.p (.o .s) .s)))))) .s)))
  | 69 => (.p .s (.p (.o (.p .s (.p .s (.p .s (.p .s (.p (.o .s) .s)))))) (.p (.o .s) .s)))
  | 70 => (.p .s (.p (.o (.p .s (.p .s (.p .s (.p .s (.p (.o .s) .s)))))) (.p (.o .s) .s)))
  | 71 => (.p .s (.p (.o (.p .s (.p .s (.p .s (.p .s (.p (.o .s) .s)))))) (.p (.o .s) .s)))
  | 72 => (.p .s (.p (.o (.p .s (.p .s (.p .s (.p .s (.p (.o .s) .s)))))) (.p (.o .s) .s)))
  | 73 => (.p .s (.p (.o .s) .s))
  | 74 => (.p .s (.p (.o .s) .s))
  | 93 => (.o (.p .s (.p (.o .s) .s)))
  | 96 => (.p .s (.p (.o .s) .s))
  | 97 => (.p .s (.p (.o .s) .s))
  | 101 => (.p (.o .s) .s)
  | 102 => (.p (.o .s) .s)
  | 106 => (.p (.p (.o (.p (.o .s) (.p (.o .s) .s))) (.p (.o .s) (.p (.o .s) (.p (.o .s) (.p (.o .s) .s))))) .s)
  | 107 => (.p (.p (.o (.p (.o .s) (.p (.o .s) .s))) (.p (.o .s) (.p (.o .s) (.p (.o .s) (.p (.o .s) .s))))) .s)
  | 117 => (.p .s (.p .s (.p .s (.p .s (.p (.o .s) .s)))))
  | 118 => (.p .s (.p .s (.p .s (.p .s (.p (.o .s) .s)))))
  | 154 => (.o (.p .s (.p (.o .s) (.p (.o .s) .s))))
  | 155 => (.p (.p (.o (.p (.o .s) (.p (.o .s) .s))) (.p (.o .s) (.p (.o .s) (.p (.o .s) (.p (.o .s) .s))))) (.p (.o .s) (.p (.o .s) (.p (.o (.p .s (.p (.o .s) (.p (.o .s) .s)))) .s))))
  | 156 => (.p (.p (.o (.p (.o .s) (.p (.o .s) .s))) (.p (.o .s) (.p (.o .s) (.p (.o .s) (.p (.o .s) .s))))) (.p (.o .s) (.p (.o .s) (.p (.o (.p .s (.p (.o .s) (.p (.o .s) .s)))) .s))))
  | 177 => (.o .s)
  | 178 => (.p (.o .s) .s)
  | 179 => (.p (.o .s) .s)
  | 183 => (.o (.o .s))
  | 185 => (.p .s (.p (.o .s) (.p (.o .s) .s)))
  | 186 => (.p .s (.p (.o .s) (.p (.o .s) .s)))
  | 212 => (.p (.o .s) .s)
  | 213 => (.p (.o .s) .s)
  | _ => .s
noncomputable def env_ctx_checker_imports : Env := { ty := envTy, eq := envEq, gam := gam_ctx_checker_imports, n := Tryz.f46.ntmps, fs := fs_ctx_checker_imports, js := js_ctx_checker_imports, lv := lv_ctx_checker_imports, om := om_ctx_checker_imports, al := [0, 16, 19, 20, 21, 22] }
theorem gamOk_ctx_checker_imports : EnvFn Tryz.prog env_ctx_checker_imports := by
  intro f gs c h
  unfold env_ctx_checker_imports gam_ctx_checker_imports at h
  simp only at h
  split at h <;> first | (cases h; done) | (cases h; exact h_ctx_has) | (cases h; exact h_ctx_checker_wantm1)
structure Y_ctx_checker_imports_6 where
  f5 : (List UInt8) × It0
  f6 : List ((List UInt8) × It0)
  f7 : Int
  f8 : Int
  f1000000 : It24

noncomputable def J_ctx_checker_imports_6 {R : Type} (k_normal : ((List UInt8) × It0) → (List ((List UInt8) × It0)) → Int → Int → It24 → Option R) (x : Y_ctx_checker_imports_6) : Option R :=
  let v1 := ((List.length x.f1000000.1.1 : Nat) : Int)
  p_ctx_has x.f5.2.2.2.1 v1 fun r2 =>
  p_ctx_checker_wantm1 x.f1000000 r2 (7 : Int) fun b3 =>
  k_normal x.f5 x.f6 x.f7 x.f8 b3
noncomputable def Q_ctx_checker_imports_6 (x : Y_ctx_checker_imports_6) : St := St.ofList [(0, (.al 1000000 [.der])), (5, (.v Ty29 .s (some x.f5))), (6, (.v Ty10 .s x.f6)), (7, (.v (.int .i64) .s x.f7)), (8, (.v (.int .i64) .s x.f8)), (1000000, (.v (.ptr 0 (.pair (.pair Ty8 Ty28) (.pair (.int .i64) .unit))) (.o (.p (.p (.o (.p (.o .s) (.p (.o .s) .s))) (.p (.o .s) (.p (.o .s) (.p (.o .s) (.p (.o .s) .s))))) .s)) (some x.f1000000)))]
def jut_ctx_checker_imports_6 : Ex → List (Nat × Bool) | .normal => [(0, false), (5, false), (6, false), (7, false), (8, false), (1000000, false)] | _ => []
noncomputable def j_ctx_checker_imports_6 : Code := match joinC 6 (body Tryz.f46.body) with | some c => c | none => .skip
structure Y_ctx_checker_imports_7 where
  f5 : (List UInt8) × It0
  f6 : List ((List UInt8) × It0)
  f7 : Int
  f8 : Int
  f1000000 : It24

noncomputable def J_ctx_checker_imports_7 {R : Type} (k_normal : (List ((List UInt8) × It0)) → Int → Int → It24 → Option R) (x : Y_ctx_checker_imports_7) : Option R :=
  let v1 := List.set (List.replicate 1 (0 : Int)) 0 x.f5.2.2.2.1
  cond (decide (List.length x.f1000000.1.2.1 + List.length v1 ≤ most))
  (let v2 := x.f1000000.1.2.1 ++ v1
  k_normal x.f6 x.f7 x.f8 ((x.f1000000.1.1, (v2, x.f1000000.1.2.2)), x.f1000000.2)) none
noncomputable def R_ctx_checker_imports_7 {R : Type} (k_normal : (List ((List UInt8) × It0)) → Int → Int → It24 → Option R) (x : Y_ctx_checker_imports_7) : Option R :=
  both
  (let v1 := List.set (List.replicate 1 (0 : Int)) 0 x.f5.2.2.2.1
  cond (decide (List.length x.f1000000.1.2.1 + List.length v1 ≤ most))
  (let v2 := x.f1000000.1.2.1 ++ v1
  k_normal x.f6 x.f7 x.f8 ((x.f1000000.1.1, (v2, x.f1000000.1.2.2)), x.f1000000.2)) none)
  (let v3 := List.set (List.replicate 1 (0 : Int)) 0 x.f5.2.2.2.1
  cond (decide (List.length x.f1000000.1.2.1 + List.length v3 ≤ most))
  (let v4 := x.f1000000.1.2.1 ++ v3
  k_normal x.f6 x.f7 x.f8 ((x.f1000000.1.1, (v4, x.f1000000.1.2.2)), x.f1000000.2)) none)
theorem req_ctx_checker_imports_7 {R : Type} (k_normal : (List ((List UInt8) × It0)) → Int → Int → It24 → Option R) (x : Y_ctx_checker_imports_7) : R_ctx_checker_imports_7 (R := R) k_normal x = J_ctx_checker_imports_7 (R := R) k_normal x := by
  unfold R_ctx_checker_imports_7 J_ctx_checker_imports_7
  simp only [both_self]
noncomputable def Q_ctx_checker_imports_7 (x : Y_ctx_checker_imports_7) : St := St.ofList [(0, (.al 1000000 [.der])), (5, (.v Ty29 .s (some x.f5))), (6, (.v Ty10 .s x.f6)), (7, (.v (.int .i64) .s x.f7)), (8, (.v (.int .i64) .s x.f8)), (1000000, (.v (.ptr 0 (.pair (.pair Ty8 Ty28) (.pair (.int .i64) .unit))) (.o (.p (.p (.o (.p (.o .s) (.p (.o .s) .s))) (.p (.o .s) (.p (.o .s) (.p (.o .s) (.p (.o .s) .s))))) .s)) (some x.f1000000)))]
def jut_ctx_checker_imports_7 : Ex → List (Nat × Bool) | .normal => [(0, false), (6, false), (7, false), (8, false), (1000000, false)] | _ => []
noncomputable def j_ctx_checker_imports_7 : Code := match joinC 7 (body Tryz.f46.body) with | some c => c | none => .skip
structure Y_ctx_checker_imports_10 where
  f5 : (List UInt8) × It0
  f6 : List ((List UInt8) × It0)
  f7 : Int
  f8 : Int
  f1000000 : It24

noncomputable def J_ctx_checker_imports_10 {R : Type}  (x : Y_ctx_checker_imports_10) : Option R :=
  none
noncomputable def Q_ctx_checker_imports_10 (x : Y_ctx_checker_imports_10) : St := St.ofList [(0, (.al 1000000 [.der])), (5, (.v Ty29 .s (some x.f5))), (6, (.v Ty10 .s x.f6)), (7, (.v (.int .i64) .s x.f7)), (8, (.v (.int .i64) .s x.f8)), (1000000, (.v (.ptr 0 (.pair (.pair Ty8 Ty28) (.pair (.int .i64) .unit))) (.o (.p (.p (.o (.p (.o .s) (.p (.o .s) .s))) (.p (.o .s) (.p (.o .s) (.p (.o .s) (.p (.o .s) .s))))) .s)) (some x.f1000000)))]
def jut_ctx_checker_imports_10 : Ex → List (Nat × Bool) | _ => []
noncomputable def j_ctx_checker_imports_10 : Code := match joinC 10 (body Tryz.f46.body) with | some c => c | none => .skip
structure Y_ctx_checker_imports_13 where
  f5 : (List UInt8) × It0
  f6 : List ((List UInt8) × It0)
  f7 : Int
  f8 : Int
  f1000000 : It24

noncomputable def J_ctx_checker_imports_13 {R : Type}  (x : Y_ctx_checker_imports_13) : Option R :=
  none
noncomputable def Q_ctx_checker_imports_13 (x : Y_ctx_checker_imports_13) : St := St.ofList [(0, (.al 1000000 [.der])), (5, (.v Ty29 .s (some x.f5))), (6, (.v Ty10 .s x.f6)), (7, (.v (.int .i64) .s x.f7)), (8, (.v (.int .i64) .s x.f8)), (1000000, (.v (.ptr 0 (.pair (.pair Ty8 Ty28) (.pair (.int .i64) .unit))) (.o (.p (.p (.o (.p (.o .s) (.p (.o .s) .s))) (.p (.o .s) (.p (.o .s) (.p (.o .s) (.p (.o .s) .s))))) .s)) (some x.f1000000)))]
def jut_ctx_checker_imports_13 : Ex → List (Nat × Bool) | _ => []
noncomputable def j_ctx_checker_imports_13 : Code := match joinC 13 (body Tryz.f46.body) with | some c => c | none => .skip
structure Y_ctx_checker_imports_16 where
  f5 : (List UInt8) × It0
  f6 : List ((List UInt8) × It0)
  f7 : Int
  f8 : Int
  f1000000 : It24

noncomputable def J_ctx_checker_imports_16 {R : Type} (k_normal : (List ((List UInt8) × It0)) → Int → Int → It24 → Option R) (x : Y_ctx_checker_imports_16) : Option R :=
  let v1 := List.set (List.replicate 1 ((0 : Int), (false, ()))) 0 (x.f5.2.2.2.1, (x.f5.2.2.2.2.2.1, ()))
  cond (decide (List.length x.f1000000.1.2.2.1 + List.length v1 ≤ most))
  (let v2 := x.f1000000.1.2.2.1 ++ v1
  k_normal x.f6 x.f7 x.f8 ((x.f1000000.1.1, (x.f1000000.1.2.1, (v2, x.f1000000.1.2.2.2))), x.f1000000.2)) none
noncomputable def R_ctx_checker_imports_16 {R : Type} (k_normal : (List ((List UInt8) × It0)) → Int → Int → It24 → Option R) (x : Y_ctx_checker_imports_16) : Option R :=
  both
  (let v1 := List.set (List.replicate 1 ((0 : Int), (false, ()))) 0 (x.f5.2.2.2.1, (x.f5.2.2.2.2.2.1, ()))
  cond (decide (List.length x.f1000000.1.2.2.1 + List.length v1 ≤ most))
  (let v2 := x.f1000000.1.2.2.1 ++ v1
  k_normal x.f6 x.f7 x.f8 ((x.f1000000.1.1, (x.f1000000.1.2.1, (v2, x.f1000000.1.2.2.2))), x.f1000000.2)) none)
  (let v3 := List.set (List.replicate 1 ((0 : Int), (false, ()))) 0 (x.f5.2.2.2.1, (x.f5.2.2.2.2.2.1, ()))
  cond (decide (List.length x.f1000000.1.2.2.1 + List.length v3 ≤ most))
  (let v4 := x.f1000000.1.2.2.1 ++ v3
  k_normal x.f6 x.f7 x.f8 ((x.f1000000.1.1, (x.f1000000.1.2.1, (v4, x.f1000000.1.2.2.2))), x.f1000000.2)) none)
theorem req_ctx_checker_imports_16 {R : Type} (k_normal : (List ((List UInt8) × It0)) → Int → Int → It24 → Option R) (x : Y_ctx_checker_imports_16) : R_ctx_checker_imports_16 (R := R) k_normal x = J_ctx_checker_imports_16 (R := R) k_normal x := by
  unfold R_ctx_checker_imports_16 J_ctx_checker_imports_16
  simp only [both_self]
noncomputable def Q_ctx_checker_imports_16 (x : Y_ctx_checker_imports_16) : St := St.ofList [(0, (.al 1000000 [.der])), (5, (.v Ty29 .s (some x.f5))), (6, (.v Ty10 .s x.f6)), (7, (.v (.int .i64) .s x.f7)), (8, (.v (.int .i64) .s x.f8)), (1000000, (.v (.ptr 0 (.pair (.pair Ty8 Ty28) (.pair (.int .i64) .unit))) (.o (.p (.p (.o (.p (.o .s) (.p (.o .s) .s))) (.p (.o .s) (.p (.o .s) (.p (.o .s) (.p (.o .s) .s))))) .s)) (some x.f1000000)))]
def jut_ctx_checker_imports_16 : Ex → List (Nat × Bool) | .normal => [(0, false), (6, false), (7, false), (8, false), (1000000, false)] | _ => []
noncomputable def j_ctx_checker_imports_16 : Code := match joinC 16 (body Tryz.f46.body) with | some c => c | none => .skip
structure Y_ctx_checker_imports_17 where
  f6 : List ((List UInt8) × It0)
  f7 : Int
  f8 : Int
  f1000000 : It24

noncomputable def J_ctx_checker_imports_17 {R : Type} (k_normal : (List ((List UInt8) × It0)) → Int → Int → It24 → Option R) (x : Y_ctx_checker_imports_17) : Option R :=
  cond (inB x.f8 (List.length x.f6))
  (let v1 := List.getD x.f6 x.f8.toNat (([] : List UInt8), (([] : List UInt8), ((0 : Int), ((0 : Int), (((0 : Int), (false, ((0 : Int), ()))), (false, ()))))))
  let v2 := v1.2.2.1 == (0 : Int)
  cond v2
  (J_ctx_checker_imports_6 (fun w3 w4 w5 w6 w7 =>
  J_ctx_checker_imports_7 (fun w8 w9 w10 w11 =>
  let v12 := IntKind.i64.wrap (w11.1.2.2.2.2.2.1 + (1 : Int))
  k_normal w8 w9 w10 ((w11.1.1, (w11.1.2.1, (w11.1.2.2.1, (w11.1.2.2.2.1, (w11.1.2.2.2.2.1, (v12, w11.1.2.2.2.2.2.2)))))), w11.2)) ⟨w3, w4, w5, w6, w7⟩) ⟨v1, x.f6, x.f7, x.f8, x.f1000000⟩)
  (let v13 := v1.2.2.1 == (1 : Int)
  cond v13
  (J_ctx_checker_imports_10 ⟨v1, x.f6, x.f7, x.f8, x.f1000000⟩)
  (let v14 := v1.2.2.1 == (2 : Int)
  cond v14
  (J_ctx_checker_imports_13 ⟨v1, x.f6, x.f7, x.f8, x.f1000000⟩)
  (let v15 := v1.2.2.1 == (3 : Int)
  cond v15
  (J_ctx_checker_imports_16 (fun w16 w17 w18 w19 =>
  let v20 := IntKind.i64.wrap (w19.1.2.2.2.2.2.2.1 + (1 : Int))
  k_normal w16 w17 w18 ((w19.1.1, (w19.1.2.1, (w19.1.2.2.1, (w19.1.2.2.2.1, (w19.1.2.2.2.2.1, (w19.1.2.2.2.2.2.1, (v20, w19.1.2.2.2.2.2.2.2))))))), w19.2)) ⟨v1, x.f6, x.f7, x.f8, x.f1000000⟩)
  (k_normal x.f6 x.f7 x.f8 x.f1000000))))) none
noncomputable def Q_ctx_checker_imports_17 (x : Y_ctx_checker_imports_17) : St := St.ofList [(0, (.al 1000000 [.der])), (6, (.v Ty10 .s x.f6)), (7, (.v (.int .i64) .s x.f7)), (8, (.v (.int .i64) .s x.f8)), (1000000, (.v (.ptr 0 (.pair (.pair Ty8 Ty28) (.pair (.int .i64) .unit))) (.o (.p (.p (.o (.p (.o .s) (.p (.o .s) .s))) (.p (.o .s) (.p (.o .s) (.p (.o .s) (.p (.o .s) .s))))) .s)) (some x.f1000000)))]
def jut_ctx_checker_imports_17 : Ex → List (Nat × Bool) | .normal => [(0, false), (6, false), (7, false), (8, false), (1000000, false)] | _ => []
noncomputable def j_ctx_checker_imports_17 : Code := match joinC 17 (body Tryz.f46.body) with | some c => c | none => .skip
structure X_ctx_checker_imports_1 where
  f6 : List ((List UInt8) × It0)
  f7 : Int
  f8 : Int
  f1000000 : It24

noncomputable def B_ctx_checker_imports_1 {R : Type} (k_exit_0 : It24 → Option R) (rec : X_ctx_checker_imports_1 → Option R) (x : X_ctx_checker_imports_1) : Option R :=
  let v1 := decide (x.f8 < x.f7)
  cond v1
  (J_ctx_checker_imports_17 (fun w2 w3 w4 w5 =>
  let v6 := IntKind.i64.wrap (w4 + (1 : Int))
  rec ⟨w2, w3, v6, w5⟩) ⟨x.f6, x.f7, x.f8, x.f1000000⟩)
  (k_exit_0 x.f1000000)
noncomputable def S_ctx_checker_imports_1 (x : X_ctx_checker_imports_1) : St := St.ofList [(0, (.al 1000000 [.der])), (6, (.v Ty10 .s x.f6)), (7, (.v (.int .i64) .s x.f7)), (8, (.v (.int .i64) .s x.f8)), (1000000, (.v (.ptr 0 (.pair (.pair Ty8 Ty28) (.pair (.int .i64) .unit))) (.o (.p (.p (.o (.p (.o .s) (.p (.o .s) .s))) (.p (.o .s) (.p (.o .s) (.p (.o .s) (.p (.o .s) .s))))) .s)) (some x.f1000000)))]
def out_ctx_checker_imports_1 : Ex → List (Nat × Bool) | .exit 0 => [(1000000, false)] | _ => []
noncomputable def fuel_ctx_checker_imports_1 (x : X_ctx_checker_imports_1) : Nat := fuel64
noncomputable def c_ctx_checker_imports_1 : Code := match loopAt 1 (body Tryz.f46.body) with | some c => c | none => .skip
noncomputable def lp_ctx_checker_imports : Loops := fun z i R st K => match z, i with
  | false, 1 => coerce [(0, false), (6, false), (7, false), (8, false), (1000000, false)] st (fun st => mAl 1000000 [.der] (st 0) (mV Ty10 .s (st 6) fun y6 => mV (.int .i64) .s (st 7) fun y7 => mV (.int .i64) .s (st 8) fun y8 => mP 0 (.pair (.pair Ty8 Ty28) (.pair (.int .i64) .unit)) (.o (.p (.p (.o (.p (.o .s) (.p (.o .s) .s))) (.p (.o .s) (.p (.o .s) (.p (.o .s) (.p (.o .s) .s))))) .s)) (st 1000000) fun y1000000 => loopN (B_ctx_checker_imports_1 (fun e1000000 => K (.exit 0) (St.ofList [(1000000, (.v (.ptr 0 (.pair (.pair Ty8 Ty28) (.pair (.int .i64) .unit))) (.o (.p (.p (.o (.p (.o .s) (.p (.o .s) .s))) (.p (.o .s) (.p (.o .s) (.p (.o .s) (.p (.o .s) .s))))) .s)) (some e1000000)))]))) (fuel_ctx_checker_imports_1 ⟨y6, y7, y8, y1000000⟩) ⟨y6, y7, y8, y1000000⟩))
  | true, 6 => coerce [(0, false), (5, false), (6, false), (7, false), (8, false), (1000000, false)] st (fun st => mAl 1000000 [.der] (st 0) (mP 60 (.pair .str (.pair .str (.pair (.int .i64) (.pair (.int .i64) Ty9)))) .s (st 5) fun y5 => mV Ty10 .s (st 6) fun y6 => mV (.int .i64) .s (st 7) fun y7 => mV (.int .i64) .s (st 8) fun y8 => mP 0 (.pair (.pair Ty8 Ty28) (.pair (.int .i64) .unit)) (.o (.p (.p (.o (.p (.o .s) (.p (.o .s) .s))) (.p (.o .s) (.p (.o .s) (.p (.o .s) (.p (.o .s) .s))))) .s)) (st 1000000) fun y1000000 => J_ctx_checker_imports_6 (fun e5 e6 e7 e8 e1000000 => K .normal (St.ofList [(0, (.al 1000000 [.der])), (5, (.v Ty29 .s (some e5))), (6, (.v Ty10 .s e6)), (7, (.v (.int .i64) .s e7)), (8, (.v (.int .i64) .s e8)), (1000000, (.v (.ptr 0 (.pair (.pair Ty8 Ty28) (.pair (.int .i64) .unit))) (.o (.p (.p (.o (.p (.o .s) (.p (.o .s) .s))) (.p (.o .s) (.p (.o .s) (.p (.o .s) (.p (.o .s) .s))))) .s)) (some e1000000)))])) ⟨y5, y6, y7, y8, y1000000⟩))
  | true, 7 => coerce [(0, false), (5, false), (6, false), (7, false), (8, false), (1000000, false)] st (fun st => mAl 1000000 [.der] (st 0) (mP 60 (.pair .str (.pair .str (.pair (.int .i64) (.pair (.int .i64) Ty9)))) .s (st 5) fun y5 => mV Ty10 .s (st 6) fun y6 => mV (.int .i64) .s (st 7) fun y7 => mV (.int .i64) .s (st 8) fun y8 => mP 0 (.pair (.pair Ty8 Ty28) (.pair (.int .i64) .unit)) (.o (.p (.p (.o (.p (.o .s) (.p (.o .s) .s))) (.p (.o .s) (.p (.o .s) (.p (.o .s) (.p (.o .s) .s))))) .s)) (st 1000000) fun y1000000 => J_ctx_checker_imports_7 (fun e6 e7 e8 e1000000 => K .normal (St.ofList [(0, (.al 1000000 [.der])), (6, (.v Ty10 .s e6)), (7, (.v (.int .i64) .s e7)), (8, (.v (.int .i64) .s e8)), (1000000, (.v (.ptr 0 (.pair (.pair Ty8 Ty28) (.pair (.int .i64) .unit))) (.o (.p (.p (.o (.p (.o .s) (.p (.o .s) .s))) (.p (.o .s) (.p (.o .s) (.p (.o .s) (.p (.o .s) .s))))) .s)) (some e1000000)))])) ⟨y5, y6, y7, y8, y1000000⟩))
  | true, 10 => coerce [(0, false), (5, false), (6, false), (7, false), (8, false), (1000000, false)] st (fun st => mAl 1000000 [.der] (st 0) (mP 60 (.pair .str (.pair .str (.pair (.int .i64) (.pair (.int .i64) Ty9)))) .s (st 5) fun y5 => mV Ty10 .s (st 6) fun y6 => mV (.int .i64) .s (st 7) fun y7 => mV (.int .i64) .s (st 8) fun y8 => mP 0 (.pair (.pair Ty8 Ty28) (.pair (.int .i64) .unit)) (.o (.p (.p (.o (.p (.o .s) (.p (.o .s) .s))) (.p (.o .s) (.p (.o .s) (.p (.o .s) (.p (.o .s) .s))))) .s)) (st 1000000) fun y1000000 => J_ctx_checker_imports_10  ⟨y5, y6, y7, y8, y1000000⟩))
  | true, 13 => coerce [(0, false), (5, false), (6, false), (7, false), (8, false), (1000000, false)] st (fun st => mAl 1000000 [.der] (st 0) (mP 60 (.pair .str (.pair .str (.pair (.int .i64) (.pair (.int .i64) Ty9)))) .s (st 5) fun y5 => mV Ty10 .s (st 6) fun y6 => mV (.int .i64) .s (st 7) fun y7 => mV (.int .i64) .s (st 8) fun y8 => mP 0 (.pair (.pair Ty8 Ty28) (.pair (.int .i64) .unit)) (.o (.p (.p (.o (.p (.o .s) (.p (.o .s) .s))) (.p (.o .s) (.p (.o .s) (.p (.o .s) (.p (.o .s) .s))))) .s)) (st 1000000) fun y1000000 => J_ctx_checker_imports_13  ⟨y5, y6, y7, y8, y1000000⟩))
  | true, 16 => coerce [(0, false), (5, false), (6, false), (7, false), (8, false), (1000000, false)] st (fun st => mAl 1000000 [.der] (st 0) (mP 60 (.pair .str (.pair .str (.pair (.int .i64) (.pair (.int .i64) Ty9)))) .s (st 5) fun y5 => mV Ty10 .s (st 6) fun y6 => mV (.int .i64) .s (st 7) fun y7 => mV (.int .i64) .s (st 8) fun y8 => mP 0 (.pair (.pair Ty8 Ty28) (.pair (.int .i64) .unit)) (.o (.p (.p (.o (.p (.o .s) (.p (.o .s) .s))) (.p (.o .s) (.p (.o .s) (.p (.o .s) (.p (.o .s) .s))))) .s)) (st 1000000) fun y1000000 => J_ctx_checker_imports_16 (fun e6 e7 e8 e1000000 => K .normal (St.ofList [(0, (.al 1000000 [.der])), (6, (.v Ty10 .s e6)), (7, (.v (.int .i64) .s e7)), (8, (.v (.int .i64) .s e8)), (1000000, (.v (.ptr 0 (.pair (.pair Ty8 Ty28) (.pair (.int .i64) .unit))) (.o (.p (.p (.o (.p (.o .s) (.p (.o .s) .s))) (.p (.o .s) (.p (.o .s) (.p (.o .s) (.p (.o .s) .s))))) .s)) (some e1000000)))])) ⟨y5, y6, y7, y8, y1000000⟩))
  | true, 17 => coerce [(0, false), (6, false), (7, false), (8, false), (1000000, false)] st (fun st => mAl 1000000 [.der] (st 0) (mV Ty10 .s (st 6) fun y6 => mV (.int .i64) .s (st 7) fun y7 => mV (.int .i64) .s (st 8) fun y8 => mP 0 (.pair (.pair Ty8 Ty28) (.pair (.int .i64) .unit)) (.o (.p (.p (.o (.p (.o .s) (.p (.o .s) .s))) (.p (.o .s) (.p (.o .s) (.p (.o .s) (.p (.o .s) .s))))) .s)) (st 1000000) fun y1000000 => J_ctx_checker_imports_17 (fun e6 e7 e8 e1000000 => K .normal (St.ofList [(0, (.al 1000000 [.der])), (6, (.v Ty10 .s e6)), (7, (.v (.int .i64) .s e7)), (8, (.v (.int .i64) .s e8)), (1000000, (.v (.ptr 0 (.pair (.pair Ty8 Ty28) (.pair (.int .i64) .unit))) (.o (.p (.p (.o (.p (.o .s) (.p (.o .s) .s))) (.p (.o .s) (.p (.o .s) (.p (.o .s) (.p (.o .s) .s))))) .s)) (some e1000000)))])) ⟨y6, y7, y8, y1000000⟩))
  | _, _ => none
theorem jstep_ctx_checker_imports_6 (R : Type) (K : Ex → St → Option R) (x : Y_ctx_checker_imports_6) : evC env_ctx_checker_imports lp_ctx_checker_imports inl0 j_ctx_checker_imports_6 (Q_ctx_checker_imports_6 x) (fun e st => coerce (jut_ctx_checker_imports_6 e) st (K e)) = J_ctx_checker_imports_6 (fun e5 e6 e7 e8 e1000000 => K .normal (St.ofList [(0, (.al 1000000 [.der])), (5, (.v Ty29 .s (some e5))), (6, (.v Ty10 .s e6)), (7, (.v (.int .i64) .s e7)), (8, (.v (.int .i64) .s e8)), (1000000, (.v (.ptr 0 (.pair (.pair Ty8 Ty28) (.pair (.int .i64) .unit))) (.o (.p (.p (.o (.p (.o .s) (.p (.o .s) .s))) (.p (.o .s) (.p (.o .s) (.p (.o .s) (.p (.o .s) .s))))) .s)) (some e1000000)))])) x := by kernel_rfl
theorem jok_ctx_checker_imports_6 : JoinOk env_ctx_checker_imports lp_ctx_checker_imports inl0 j_ctx_checker_imports_6 6 := by
  refine joinOk_of (hd := [(0, false), (5, false), (6, false), (7, false), (8, false), (1000000, false)]) (out := jut_ctx_checker_imports_6) (S := Q_ctx_checker_imports_6) (fun _ K => J_ctx_checker_imports_6 (fun e5 e6 e7 e8 e1000000 => K .normal (St.ofList [(0, (.al 1000000 [.der])), (5, (.v Ty29 .s (some e5))), (6, (.v Ty10 .s e6)), (7, (.v (.int .i64) .s e7)), (8, (.v (.int .i64) .s e8)), (1000000, (.v (.ptr 0 (.pair (.pair Ty8 Ty28) (.pair (.int .i64) .unit))) (.o (.p (.p (.o (.p (.o .s) (.p (.o .s) .s))) (.p (.o .s) (.p (.o .s) (.p (.o .s) (.p (.o .s) .s))))) .s)) (some e1000000)))]))) 6 jstep_ctx_checker_imports_6 (fun R K => fun st => mAl 1000000 [.der] (st 0) (mP 60 (.pair .str (.pair .str (.pair (.int .i64) (.pair (.int .i64) Ty9)))) .s (st 5) fun y5 => mV Ty10 .s (st 6) fun y6 => mV (.int .i64) .s (st 7) fun y7 => mV (.int .i64) .s (st 8) fun y8 => mP 0 (.pair (.pair Ty8 Ty28) (.pair (.int .i64) .unit)) (.o (.p (.p (.o (.p (.o .s) (.p (.o .s) .s))) (.p (.o .s) (.p (.o .s) (.p (.o .s) (.p (.o .s) .s))))) .s)) (st 1000000) fun y1000000 => J_ctx_checker_imports_6 (fun e5 e6 e7 e8 e1000000 => K .normal (St.ofList [(0, (.al 1000000 [.der])), (5, (.v Ty29 .s (some e5))), (6, (.v Ty10 .s e6)), (7, (.v (.int .i64) .s e7)), (8, (.v (.int .i64) .s e8)), (1000000, (.v (.ptr 0 (.pair (.pair Ty8 Ty28) (.pair (.int .i64) .unit))) (.o (.p (.p (.o (.p (.o .s) (.p (.o .s) .s))) (.p (.o .s) (.p (.o .s) (.p (.o .s) (.p (.o .s) .s))))) .s)) (some e1000000)))])) ⟨y5, y6, y7, y8, y1000000⟩)) (fun R st K => by kernel_rfl) ?_
  intro R K st r h
  obtain ⟨hy0, h⟩ := mAl_inv h
  obtain ⟨y5, hy5, h⟩ := mP_inv h
  obtain ⟨y6, hy6, h⟩ := mV_inv h
  obtain ⟨y7, hy7, h⟩ := mV_inv h
  obtain ⟨y8, hy8, h⟩ := mV_inv h
  obtain ⟨y1000000, hy1000000, h⟩ := mP_inv h
  exact ⟨⟨y5, y6, y7, y8, y1000000⟩, only_of_list (ofList_cons hy0 (ofList_cons hy5 (ofList_cons hy6 (ofList_cons hy7 (ofList_cons hy8 (ofList_cons hy1000000 rfl)))))), h⟩
theorem jstep_ctx_checker_imports_7 (R : Type) (K : Ex → St → Option R) (x : Y_ctx_checker_imports_7) : evC env_ctx_checker_imports lp_ctx_checker_imports inl0 j_ctx_checker_imports_7 (Q_ctx_checker_imports_7 x) (fun e st => coerce (jut_ctx_checker_imports_7 e) st (K e)) = J_ctx_checker_imports_7 (fun e6 e7 e8 e1000000 => K .normal (St.ofList [(0, (.al 1000000 [.der])), (6, (.v Ty10 .s e6)), (7, (.v (.int .i64) .s e7)), (8, (.v (.int .i64) .s e8)), (1000000, (.v (.ptr 0 (.pair (.pair Ty8 Ty28) (.pair (.int .i64) .unit))) (.o (.p (.p (.o (.p (.o .s) (.p (.o .s) .s))) (.p (.o .s) (.p (.o .s) (.p (.o .s) (.p (.o .s) .s))))) .s)) (some e1000000)))])) x := by
  have h : evC env_ctx_checker_imports lp_ctx_checker_imports inl0 j_ctx_checker_imports_7 (Q_ctx_checker_imports_7 x) (fun e st => coerce (jut_ctx_checker_imports_7 e) st (K e)) = R_ctx_checker_imports_7 (fun e6 e7 e8 e1000000 => K .normal (St.ofList [(0, (.al 1000000 [.der])), (6, (.v Ty10 .s e6)), (7, (.v (.int .i64) .s e7)), (8, (.v (.int .i64) .s e8)), (1000000, (.v (.ptr 0 (.pair (.pair Ty8 Ty28) (.pair (.int .i64) .unit))) (.o (.p (.p (.o (.p (.o .s) (.p (.o .s) .s))) (.p (.o .s) (.p (.o .s) (.p (.o .s) (.p (.o .s) .s))))) .s)) (some e1000000)))])) x := by kernel_rfl
  rw [h, req_ctx_checker_imports_7]
theorem jok_ctx_checker_imports_7 : JoinOk env_ctx_checker_imports lp_ctx_checker_imports inl0 j_ctx_checker_imports_7 7 := by
  refine joinOk_of (hd := [(0, false), (5, false), (6, false), (7, false), (8, false), (1000000, false)]) (out := jut_ctx_checker_imports_7) (S := Q_ctx_checker_imports_7) (fun _ K => J_ctx_checker_imports_7 (fun e6 e7 e8 e1000000 => K .normal (St.ofList [(0, (.al 1000000 [.der])), (6, (.v Ty10 .s e6)), (7, (.v (.int .i64) .s e7)), (8, (.v (.int .i64) .s e8)), (1000000, (.v (.ptr 0 (.pair (.pair Ty8 Ty28) (.pair (.int .i64) .unit))) (.o (.p (.p (.o (.p (.o .s) (.p (.o .s) .s))) (.p (.o .s) (.p (.o .s) (.p (.o .s) (.p (.o .s) .s))))) .s)) (some e1000000)))]))) 7 jstep_ctx_checker_imports_7 (fun R K => fun st => mAl 1000000 [.der] (st 0) (mP 60 (.pair .str (.pair .str (.pair (.int .i64) (.pair (.int .i64) Ty9)))) .s (st 5) fun y5 => mV Ty10 .s (st 6) fun y6 => mV (.int .i64) .s (st 7) fun y7 => mV (.int .i64) .s (st 8) fun y8 => mP 0 (.pair (.pair Ty8 Ty28) (.pair (.int .i64) .unit)) (.o (.p (.p (.o (.p (.o .s) (.p (.o .s) .s))) (.p (.o .s) (.p (.o .s) (.p (.o .s) (.p (.o .s) .s))))) .s)) (st 1000000) fun y1000000 => J_ctx_checker_imports_7 (fun e6 e7 e8 e1000000 => K .normal (St.ofList [(0, (.al 1000000 [.der])), (6, (.v Ty10 .s e6)), (7, (.v (.int .i64) .s e7)), (8, (.v (.int .i64) .s e8)), (1000000, (.v (.ptr 0 (.pair (.pair Ty8 Ty28) (.pair (.int .i64) .unit))) (.o (.p (.p (.o (.p (.o .s) (.p (.o .s) .s))) (.p (.o .s) (.p (.o .s) (.p (.o .s) (.p (.o .s) .s))))) .s)) (some e1000000)))])) ⟨y5, y6, y7, y8, y1000000⟩)) (fun R st K => by kernel_rfl) ?_
  intro R K st r h
  obtain ⟨hy0, h⟩ := mAl_inv h
  obtain ⟨y5, hy5, h⟩ := mP_inv h
  obtain ⟨y6, hy6, h⟩ := mV_inv h
  obtain ⟨y7, hy7, h⟩ := mV_inv h
  obtain ⟨y8, hy8, h⟩ := mV_inv h
  obtain ⟨y1000000, hy1000000, h⟩ := mP_inv h
  exact ⟨⟨y5, y6, y7, y8, y1000000⟩, only_of_list (ofList_cons hy0 (ofList_cons hy5 (ofList_cons hy6 (ofList_cons hy7 (ofList_cons hy8 (ofList_cons hy1000000 rfl)))))), h⟩
theorem jstep_ctx_checker_imports_10 (R : Type) (K : Ex → St → Option R) (x : Y_ctx_checker_imports_10) : evC env_ctx_checker_imports lp_ctx_checker_imports inl0 j_ctx_checker_imports_10 (Q_ctx_checker_imports_10 x) (fun e st => coerce (jut_ctx_checker_imports_10 e) st (K e)) = J_ctx_checker_imports_10  x := by kernel_rfl
theorem jok_ctx_checker_imports_10 : JoinOk env_ctx_checker_imports lp_ctx_checker_imports inl0 j_ctx_checker_imports_10 10 := by
  refine joinOk_of (hd := [(0, false), (5, false), (6, false), (7, false), (8, false), (1000000, false)]) (out := jut_ctx_checker_imports_10) (S := Q_ctx_checker_imports_10) (fun _ K => J_ctx_checker_imports_10 ) 10 jstep_ctx_checker_imports_10 (fun R K => fun st => mAl 1000000 [.der] (st 0) (mP 60 (.pair .str (.pair .str (.pair (.int .i64) (.pair (.int .i64) Ty9)))) .s (st 5) fun y5 => mV Ty10 .s (st 6) fun y6 => mV (.int .i64) .s (st 7) fun y7 => mV (.int .i64) .s (st 8) fun y8 => mP 0 (.pair (.pair Ty8 Ty28) (.pair (.int .i64) .unit)) (.o (.p (.p (.o (.p (.o .s) (.p (.o .s) .s))) (.p (.o .s) (.p (.o .s) (.p (.o .s) (.p (.o .s) .s))))) .s)) (st 1000000) fun y1000000 => J_ctx_checker_imports_10  ⟨y5, y6, y7, y8, y1000000⟩)) (fun R st K => by kernel_rfl) ?_
  intro R K st r h
  obtain ⟨hy0, h⟩ := mAl_inv h
  obtain ⟨y5, hy5, h⟩ := mP_inv h
  obtain ⟨y6, hy6, h⟩ := mV_inv h
  obtain ⟨y7, hy7, h⟩ := mV_inv h
  obtain ⟨y8, hy8, h⟩ := mV_inv h
  obtain ⟨y1000000, hy1000000, h⟩ := mP_inv h
  exact ⟨⟨y5, y6, y7, y8, y1000000⟩, only_of_list (ofList_cons hy0 (ofList_cons hy5 (ofList_cons hy6 (ofList_cons hy7 (ofList_cons hy8 (ofList_cons hy1000000 rfl)))))), h⟩
theorem jstep_ctx_checker_imports_13 (R : Type) (K : Ex → St → Option R) (x : Y_ctx_checker_imports_13) : evC env_ctx_checker_imports lp_ctx_checker_imports inl0 j_ctx_checker_imports_13 (Q_ctx_checker_imports_13 x) (fun e st => coerce (jut_ctx_checker_imports_13 e) st (K e)) = J_ctx_checker_imports_13  x := by kernel_rfl
theorem jok_ctx_checker_imports_13 : JoinOk env_ctx_checker_imports lp_ctx_checker_imports inl0 j_ctx_checker_imports_13 13 := by
  refine joinOk_of (hd := [(0, false), (5, false), (6, false), (7, false), (8, false), (1000000, false)]) (out := jut_ctx_checker_imports_13) (S := Q_ctx_checker_imports_13) (fun _ K => J_ctx_checker_imports_13 ) 13 jstep_ctx_checker_imports_13 (fun R K => fun st => mAl 1000000 [.der] (st 0) (mP 60 (.pair .str (.pair .str (.pair (.int .i64) (.pair (.int .i64) Ty9)))) .s (st 5) fun y5 => mV Ty10 .s (st 6) fun y6 => mV (.int .i64) .s (st 7) fun y7 => mV (.int .i64) .s (st 8) fun y8 => mP 0 (.pair (.pair Ty8 Ty28) (.pair (.int .i64) .unit)) (.o (.p (.p (.o (.p (.o .s) (.p (.o .s) .s))) (.p (.o .s) (.p (.o .s) (.p (.o .s) (.p (.o .s) .s))))) .s)) (st 1000000) fun y1000000 => J_ctx_checker_imports_13  ⟨y5, y6, y7, y8, y1000000⟩)) (fun R st K => by kernel_rfl) ?_
  intro R K st r h
  obtain ⟨hy0, h⟩ := mAl_inv h
  obtain ⟨y5, hy5, h⟩ := mP_inv h
  obtain ⟨y6, hy6, h⟩ := mV_inv h
  obtain ⟨y7, hy7, h⟩ := mV_inv h
  obtain ⟨y8, hy8, h⟩ := mV_inv h
  obtain ⟨y1000000, hy1000000, h⟩ := mP_inv h
  exact ⟨⟨y5, y6, y7, y8, y1000000⟩, only_of_list (ofList_cons hy0 (ofList_cons hy5 (ofList_cons hy6 (ofList_cons hy7 (ofList_cons hy8 (ofList_cons hy1000000 rfl)))))), h⟩
theorem jstep_ctx_checker_imports_16 (R : Type) (K : Ex → St → Option R) (x : Y_ctx_checker_imports_16) : evC env_ctx_checker_imports lp_ctx_checker_imports inl0 j_ctx_checker_imports_16 (Q_ctx_checker_imports_16 x) (fun e st => coerce (jut_ctx_checker_imports_16 e) st (K e)) = J_ctx_checker_imports_16 (fun e6 e7 e8 e1000000 => K .normal (St.ofList [(0, (.al 1000000 [.der])), (6, (.v Ty10 .s e6)), (7, (.v (.int .i64) .s e7)), (8, (.v (.int .i64) .s e8)), (1000000, (.v (.ptr 0 (.pair (.pair Ty8 Ty28) (.pair (.int .i64) .unit))) (.o (.p (.p (.o (.p (.o .s) (.p (.o .s) .s))) (.p (.o .s) (.p (.o .s) (.p (.o .s) (.p (.o .s) .s))))) .s)) (some e1000000)))])) x := by
  have h : evC env_ctx_checker_imports lp_ctx_checker_imports inl0 j_ctx_checker_imports_16 (Q_ctx_checker_imports_16 x) (fun e st => coerce (jut_ctx_checker_imports_16 e) st (K e)) = R_ctx_checker_imports_16 (fun e6 e7 e8 e1000000 => K .normal (St.ofList [(0, (.al 1000000 [.der])), (6, (.v Ty10 .s e6)), (7, (.v (.int .i64) .s e7)), (8, (.v (.int .i64) .s e8)), (1000000, (.v (.ptr 0 (.pair (.pair Ty8 Ty28) (.pair (.int .i64) .unit))) (.o (.p (.p (.o (.p (.o .s) (.p (.o .s) .s))) (.p (.o .s) (.p (.o .s) (.p (.o .s) (.p (.o .s) .s))))) .s)) (some e1000000)))])) x := by kernel_rfl
  rw [h, req_ctx_checker_imports_16]
theorem jok_ctx_checker_imports_16 : JoinOk env_ctx_checker_imports lp_ctx_checker_imports inl0 j_ctx_checker_imports_16 16 := by
  refine joinOk_of (hd := [(0, false), (5, false), (6, false), (7, false), (8, false), (1000000, false)]) (out := jut_ctx_checker_imports_16) (S := Q_ctx_checker_imports_16) (fun _ K => J_ctx_checker_imports_16 (fun e6 e7 e8 e1000000 => K .normal (St.ofList [(0, (.al 1000000 [.der])), (6, (.v Ty10 .s e6)), (7, (.v (.int .i64) .s e7)), (8, (.v (.int .i64) .s e8)), (1000000, (.v (.ptr 0 (.pair (.pair Ty8 Ty28) (.pair (.int .i64) .unit))) (.o (.p (.p (.o (.p (.o .s) (.p (.o .s) .s))) (.p (.o .s) (.p (.o .s) (.p (.o .s) (.p (.o .s) .s))))) .s)) (some e1000000)))]))) 16 jstep_ctx_checker_imports_16 (fun R K => fun st => mAl 1000000 [.der] (st 0) (mP 60 (.pair .str (.pair .str (.pair (.int .i64) (.pair (.int .i64) Ty9)))) .s (st 5) fun y5 => mV Ty10 .s (st 6) fun y6 => mV (.int .i64) .s (st 7) fun y7 => mV (.int .i64) .s (st 8) fun y8 => mP 0 (.pair (.pair Ty8 Ty28) (.pair (.int .i64) .unit)) (.o (.p (.p (.o (.p (.o .s) (.p (.o .s) .s))) (.p (.o .s) (.p (.o .s) (.p (.o .s) (.p (.o .s) .s))))) .s)) (st 1000000) fun y1000000 => J_ctx_checker_imports_16 (fun e6 e7 e8 e1000000 => K .normal (St.ofList [(0, (.al 1000000 [.der])), (6, (.v Ty10 .s e6)), (7, (.v (.int .i64) .s e7)), (8, (.v (.int .i64) .s e8)), (1000000, (.v (.ptr 0 (.pair (.pair Ty8 Ty28) (.pair (.int .i64) .unit))) (.o (.p (.p (.o (.p (.o .s) (.p (.o .s) .s))) (.p (.o .s) (.p (.o .s) (.p (.o .s) (.p (.o .s) .s))))) .s)) (some e1000000)))])) ⟨y5, y6, y7, y8, y1000000⟩)) (fun R st K => by kernel_rfl) ?_
  intro R K st r h
  obtain ⟨hy0, h⟩ := mAl_inv h
  obtain ⟨y5, hy5, h⟩ := mP_inv h
  obtain ⟨y6, hy6, h⟩ := mV_inv h
  obtain ⟨y7, hy7, h⟩ := mV_inv h
  obtain ⟨y8, hy8, h⟩ := mV_inv h
  obtain ⟨y1000000, hy1000000, h⟩ := mP_inv h
  exact ⟨⟨y5, y6, y7, y8, y1000000⟩, only_of_list (ofList_cons hy0 (ofList_cons hy5 (ofList_cons hy6 (ofList_cons hy7 (ofList_cons hy8 (ofList_cons hy1000000 rfl)))))), h⟩
theorem jstep_ctx_checker_imports_17 (R : Type) (K : Ex → St → Option R) (x : Y_ctx_checker_imports_17) : evC env_ctx_checker_imports lp_ctx_checker_imports inl0 j_ctx_checker_imports_17 (Q_ctx_checker_imports_17 x) (fun e st => coerce (jut_ctx_checker_imports_17 e) st (K e)) = J_ctx_checker_imports_17 (fun e6 e7 e8 e1000000 => K .normal (St.ofList [(0, (.al 1000000 [.der])), (6, (.v Ty10 .s e6)), (7, (.v (.int .i64) .s e7)), (8, (.v (.int .i64) .s e8)), (1000000, (.v (.ptr 0 (.pair (.pair Ty8 Ty28) (.pair (.int .i64) .unit))) (.o (.p (.p (.o (.p (.o .s) (.p (.o .s) .s))) (.p (.o .s) (.p (.o .s) (.p (.o .s) (.p (.o .s) .s))))) .s)) (some e1000000)))])) x := by kernel_rfl
theorem jok_ctx_checker_imports_17 : JoinOk env_ctx_checker_imports lp_ctx_checker_imports inl0 j_ctx_checker_imports_17 17 := by
  refine joinOk_of (hd := [(0, false), (6, false), (7, false), (8, false), (1000000, false)]) (out := jut_ctx_checker_imports_17) (S := Q_ctx_checker_imports_17) (fun _ K => J_ctx_checker_imports_17 (fun e6 e7 e8 e1000000 => K .normal (St.ofList [(0, (.al 1000000 [.der])), (6, (.v Ty10 .s e6)), (7, (.v (.int .i64) .s e7)), (8, (.v (.int .i64) .s e8)), (1000000, (.v (.ptr 0 (.pair (.pair Ty8 Ty28) (.pair (.int .i64) .unit))) (.o (.p (.p (.o (.p (.o .s) (.p (.o .s) .s))) (.p (.o .s) (.p (.o .s) (.p (.o .s) (.p (.o .s) .s))))) .s)) (some e1000000)))]))) 17 jstep_ctx_checker_imports_17 (fun R K => fun st => mAl 1000000 [.der] (st 0) (mV Ty10 .s (st 6) fun y6 => mV (.int .i64) .s (st 7) fun y7 => mV (.int .i64) .s (st 8) fun y8 => mP 0 (.pair (.pair Ty8 Ty28) (.pair (.int .i64) .unit)) (.o (.p (.p (.o (.p (.o .s) (.p (.o .s) .s))) (.p (.o .s) (.p (.o .s) (.p (.o .s) (.p (.o .s) .s))))) .s)) (st 1000000) fun y1000000 => J_ctx_checker_imports_17 (fun e6 e7 e8 e1000000 => K .normal (St.ofList [(0, (.al 1000000 [.der])), (6, (.v Ty10 .s e6)), (7, (.v (.int .i64) .s e7)), (8, (.v (.int .i64) .s e8)), (1000000, (.v (.ptr 0 (.pair (.pair Ty8 Ty28) (.pair (.int .i64) .unit))) (.o (.p (.p (.o (.p (.o .s) (.p (.o .s) .s))) (.p (.o .s) (.p (.o .s) (.p (.o .s) (.p (.o .s) .s))))) .s)) (some e1000000)))])) ⟨y6, y7, y8, y1000000⟩)) (fun R st K => by kernel_rfl) ?_
  intro R K st r h
  obtain ⟨hy0, h⟩ := mAl_inv h
  obtain ⟨y6, hy6, h⟩ := mV_inv h
  obtain ⟨y7, hy7, h⟩ := mV_inv h
  obtain ⟨y8, hy8, h⟩ := mV_inv h
  obtain ⟨y1000000, hy1000000, h⟩ := mP_inv h
  exact ⟨⟨y6, y7, y8, y1000000⟩, only_of_list (ofList_cons hy0 (ofList_cons hy6 (ofList_cons hy7 (ofList_cons hy8 (ofList_cons hy1000000 rfl))))), h⟩
theorem step_ctx_checker_imports_1 (R : Type) (K : Ex → St → Option R) (rec : St → Option R) (x : X_ctx_checker_imports_1) : evC env_ctx_checker_imports lp_ctx_checker_imports inl0 c_ctx_checker_imports_1 (S_ctx_checker_imports_1 x) (fun e st => match e with | .normal => coerce [(0, false), (6, false), (7, false), (8, false), (1000000, false)] st rec | e => coerce (out_ctx_checker_imports_1 e) st (K e)) = B_ctx_checker_imports_1 (fun e1000000 => K (.exit 0) (St.ofList [(1000000, (.v (.ptr 0 (.pair (.pair Ty8 Ty28) (.pair (.int .i64) .unit))) (.o (.p (.p (.o (.p (.o .s) (.p (.o .s) .s))) (.p (.o .s) (.p (.o .s) (.p (.o .s) (.p (.o .s) .s))))) .s)) (some e1000000)))])) (fun x => rec (S_ctx_checker_imports_1 x)) x := by kernel_rfl
theorem ok_ctx_checker_imports_1 : LoopOk env_ctx_checker_imports lp_ctx_checker_imports inl0 c_ctx_checker_imports_1 := by
  refine loopOk_of (hd := [(0, false), (6, false), (7, false), (8, false), (1000000, false)]) (out := out_ctx_checker_imports_1) (S := S_ctx_checker_imports_1) (fun _ K => B_ctx_checker_imports_1 (fun e1000000 => K (.exit 0) (St.ofList [(1000000, (.v (.ptr 0 (.pair (.pair Ty8 Ty28) (.pair (.int .i64) .unit))) (.o (.p (.p (.o (.p (.o .s) (.p (.o .s) .s))) (.p (.o .s) (.p (.o .s) (.p (.o .s) (.p (.o .s) .s))))) .s)) (some e1000000)))]))) fuel_ctx_checker_imports_1 1 step_ctx_checker_imports_1 (by kernel_rfl) (fun R K => fun st => mAl 1000000 [.der] (st 0) (mV Ty10 .s (st 6) fun y6 => mV (.int .i64) .s (st 7) fun y7 => mV (.int .i64) .s (st 8) fun y8 => mP 0 (.pair (.pair Ty8 Ty28) (.pair (.int .i64) .unit)) (.o (.p (.p (.o (.p (.o .s) (.p (.o .s) .s))) (.p (.o .s) (.p (.o .s) (.p (.o .s) (.p (.o .s) .s))))) .s)) (st 1000000) fun y1000000 => loopN (B_ctx_checker_imports_1 (fun e1000000 => K (.exit 0) (St.ofList [(1000000, (.v (.ptr 0 (.pair (.pair Ty8 Ty28) (.pair (.int .i64) .unit))) (.o (.p (.p (.o (.p (.o .s) (.p (.o .s) .s))) (.p (.o .s) (.p (.o .s) (.p (.o .s) (.p (.o .s) .s))))) .s)) (some e1000000)))]))) (fuel_ctx_checker_imports_1 ⟨y6, y7, y8, y1000000⟩) ⟨y6, y7, y8, y1000000⟩)) (fun R st K => by kernel_rfl) ?_
  intro R K st r h
  obtain ⟨hy0, h⟩ := mAl_inv h
  obtain ⟨y6, hy6, h⟩ := mV_inv h
  obtain ⟨y7, hy7, h⟩ := mV_inv h
  obtain ⟨y8, hy8, h⟩ := mV_inv h
  obtain ⟨y1000000, hy1000000, h⟩ := mP_inv h
  exact ⟨⟨y6, y7, y8, y1000000⟩, only_of_list (ofList_cons hy0 (ofList_cons hy6 (ofList_cons hy7 (ofList_cons hy8 (ofList_cons hy1000000 rfl))))), h⟩
theorem loops_ctx_checker_imports : LoopsOk env_ctx_checker_imports lp_ctx_checker_imports inl0 (body Tryz.f46.body) := by
  refine loopsOk_of (fun c hc => ?_) (fun c hc => ?_)
  · rw [show loopsL (body Tryz.f46.body) = [c_ctx_checker_imports_1] by kernel_rfl] at hc
    simp only [List.mem_cons, List.not_mem_nil, or_false] at hc
    rcases hc with rfl
    · exact ok_ctx_checker_imports_1
  · rw [show joinsL env_ctx_checker_imports (body Tryz.f46.body) = [(j_ctx_checker_imports_7, 7), (j_ctx_checker_imports_6, 6), (j_ctx_checker_imports_10, 10), (j_ctx_checker_imports_13, 13), (j_ctx_checker_imports_16, 16), (j_ctx_checker_imports_17, 17)] by kernel_rfl] at hc
    simp only [List.mem_cons, List.not_mem_nil, or_false] at hc
    rcases hc with rfl | rfl | rfl | rfl | rfl | rfl
    · exact jok_ctx_checker_imports_7
    · exact jok_ctx_checker_imports_6
    · exact jok_ctx_checker_imports_10
    · exact jok_ctx_checker_imports_13
    · exact jok_ctx_checker_imports_16
    · exact jok_ctx_checker_imports_17
noncomputable def p_ctx_checker_imports {R : Type} (a0 : It24) (a1 : List ((List UInt8) × It0)) (K : It24 → Option R) : Option R :=
  let v1 := ((List.length a1 : Nat) : Int)
  loopN (B_ctx_checker_imports_1 (fun w2 =>
  K w2)) (fuel_ctx_checker_imports_1 ⟨a1, v1, (0 : Int), a0⟩) ⟨a1, v1, (0 : Int), a0⟩
noncomputable def cs_ctx_checker_imports : CSpec := { ins := [(.ref (.pair (.pair Ty8 Ty28) (.pair (.int .i64) .unit)) (.p (.p (.o (.p (.o .s) (.p (.o .s) .s))) (.p (.o .s) (.p (.o .s) (.p (.o .s) (.p (.o .s) .s))))) .s) (.p (.p (.o (.p (.o .s) (.p (.o .s) .s))) (.p (.o .s) (.p (.o .s) (.p (.o .s) (.p (.o .s) .s))))) .s)), (.val Ty10 .s)], outs := [], fn := fun (d : It24 × (List ((List UInt8) × It0)) × Unit) K _ => p_ctx_checker_imports d.1 d.2.1 (fun b0 => K ((()) : Unit) ((b0, ()) : It24 × Unit)) }
theorem h_ctx_checker_imports : Holds Tryz.prog 46 cs_ctx_checker_imports := by
  refine holds_of (env := env_ctx_checker_imports) (inl := inl0) (fn := Tryz.f46) (code := body Tryz.f46.body) (rs := []) (lp := lp_ctx_checker_imports) mixed ⟨envTyOk.ty, envTyOk.eq⟩ gamOk_ctx_checker_imports inl0_ok Tryz.func46 (by kernel_rfl) (by kernel_rfl) (by kernel_rfl) (by kernel_rfl) (by kernel_rfl) loops_ctx_checker_imports (by kernel_rfl) ?_
  intro d R K Kp res h
  have : evC env_ctx_checker_imports lp_ctx_checker_imports inl0 (body Tryz.f46.body) (St.start cs_ctx_checker_imports.ins d) (retK env_ctx_checker_imports cs_ctx_checker_imports.ins cs_ctx_checker_imports.outs [] cs_ctx_checker_imports.pan K Kp) = cs_ctx_checker_imports.fn d K Kp := by kernel_rfl
  rw [this]; exact h
-- f47 (*trammel/ctx.checker).own (in part: skipped f76 | skipped f77 | skipped f78)
noncomputable def gam_ctx_checker_own : FuncId → List FuncId → Option CSpec
  | 52, [] => some cs_ctx_has
  | 50, [] => some cs_ctx_checker_wantm1
  | _, _ => none
noncomputable def fz_ctx_checker_own : Nat → Bool
  | 3 => true
  | _ => false
noncomputable def fs_ctx_checker_own : Nat → Bool
  | 5 => true
  | 7 => true
  | 9 => true
  | 11 => true
  | _ => false
noncomputable def js_ctx_checker_own : Nat → Bool
  | 5 => true
  | 6 => true
  | 11 => true
  | 12 => true
  | 17 => true
  | 18 => true
  | 25 => true
  | 26 => true
  | _ => false
noncomputable def lv_ctx_checker_own : Nat → Option (List Nat)
  | 0 => some [0, 1, 1000000]
  | 1 => some [0, 3, 1000000]
  | 2 => some [0, 3, 13, 14, 15, 1000000]
  | 3 => some [0, 3, 13, 14, 15, 1000000]
  | 4 => some [0, 3, 5, 13, 14, 15, 1000000]
  | 5 => some [0, 3, 5, 13, 14, 15, 1000000]
  | 6 => some [0, 3, 13, 14, 15, 1000000]
  | 7 => some [0, 3, 1000000]
  | 8 => some [0, 3, 45, 46, 47, 1000000]
  | 9 => some [0, 3, 45, 46, 47, 1000000]
  | 10 => some [0, 3, 7, 45, 46, 47, 1000000]
  | 13 => some [0, 3, 1000000]
  | 14 => some [0, 3, 72, 73, 74, 1000000]
  | 15 => some [0, 3, 72, 73, 74, 1000000]
  | 16 => some [0, 3, 9, 72, 73, 74, 1000000]
  | 19 => some [0, 3, 1000000]
  | 20 => some [0, 3, 1000000]
  | 21 => some [0, 3, 1000000]
  | 22 => some [0, 117, 118, 119, 1000000]
  | 23 => some [0, 117, 118, 119, 1000000]
  | 24 => some [0, 11, 117, 118, 119, 1000000]
  | _ => none
noncomputable def om_ctx_checker_own : TypeId → Md
  | 22 => (.o .s)
  | 25 => (.o (.p (.o .s) (.p (.o .s) .s)))
  | 26 => (.o .s)
  | 27 => (.o (.p .s (.p (.o .s) (.p (.o (.p .s (.p .s (.p .s (.p .s (.p (.o .s) .s)))))) .s))))
  | 28 => (.o .s)
  | 29 => (.o (.p .s (.p .s (.p (.o (.p .s (.p .s (.p .s (.p .s (.p (.o .s) .s)))))) .s))))
  | 30 => (.o .s)
  | 31 => (.o .s)
  | 32 => (.o (.p .s (.p (.o (.p .s (.p .s (.p .s (.p .s (.p (.o .s) .s)))))) (.p (.o .s) .s))))
  | 33 => (.o (.p .s (.p (.o (.p .s (.p .s (.p .s (.p .s (.p (.o .s) .s)))))) (.p (.o .s) .s))))
  | 34 => (.o (.p .s (.p (.o .s) .s)))
  | 35 => (.p (.o (.p (.o .s) (.p (.o .s) .s))) (.p (.o .s) (.p (.o (.p .s (.p (.o .s) (.p (.o (.p .s (.p .s (.p .s (.p .s (.p (.o .s) .s)))))) .s)))) (.p (.o .s) (.p (.o .s) (.p (.o (.p .s (.p .s (.p (.o (.p .s (.p .s (.p .s (.p .s (.p (.o .s) .s)))))) .s)))) (.p (.o .s) (.p (.o .s) (.p (.o (.p .s (.p (.o (.p .s (.p .s (.p .s (.p .s (.p (.o .s) .s)))))) (.p (.o .s) .s)))) (.p (.o .s) (.p (.o (.p .s (.p (.o (.p .s (.p .s (.p .s (.p .s (.p (.o .s) .s)))))) (.p (.o .s) .s)))) (.p (.o (.p .s (.p (.o .s) .s))) .s))))))))))))
  | 36 => (.p (.o (.p (.o .s) (.p (.o .s) .s))) (.p (.o .s) (.p (.o (.p .s (.p (.o .s) (.p (.o (.p .s (.p .s (.p .s (.p .s (.p (.o .s) .s)))))) .s)))) (.p (.o .s) (.p (.o .s) (.p (.o (.p .s (.p .s (.p (.o (.p .s (.p .s (.p .s (.p .s (.p (.o .s) .s)))))) .s)))) (.p (.o .s) (.p (.o .s) (.p (.o (.p .s (.p (.o (.p .s (.p .s (.p .s (.p .s (.p (.o .s) .s)))))) (.p (.o .s) .s)))) (.p (.o .s) (.p (.o (.p .s (.p (.o (.p .s (.p .s (.p .s (.p .s (.p (.o .s) .s)))))) (.p (.o .s) .s)))) (.p (.o (.p .s (.p (.o .s) .s))) .s))))))))))))
  | 37 => (.o .s)
  | 38 => (.p (.o (.p (.o .s) (.p (.o .s) .s))) (.p (.o .s) (.p (.o .s) (.p (.o .s) (.p (.o .s) .s)))))
  | 39 => (.p (.o (.p (.o .s) (.p (.o .s) .s))) (.p (.o .s) (.p (.o .s) (.p (.o .s) (.p (.o .s) .s)))))
  | 54 => (.p (.o .s) (.p (.o .s) .s))
  | 55 => (.p (.o .s) (.p (.o .s) .s))
  | 61 => (.o (.p .s (.p .s (.p .s (.p .s (.p (.o .s) .s))))))
  | 62 => (.p .s (.p (.o .s) (.p (.o (.p .s (.p .s (.p .s (.p .s (.p (.o .s) .s)))))) .s)))
  | 63 => (.p .s (.p (.o .s) (.p (.o (.p .s (.p .s (.p .s (.p .s (.p (.o .s) .s)))))) .s)))
  | 65 => (.p .s (.p .s (.p (.o (.p .s (.p .s (.p .s (.p .s (.p (.o .s) .s)))))) .s)))
  | 66 => (.p .s (.p .s (.p (.o (.p .s (.p .s (.p .s (.p .s (.p (.o .s) .s)))))) .s)))
  | 69 => (.p .s (.p (.o (.p .s (.p .s (.p .s (.p .s (.p (.o .s) .s)))))) (.p (.o .s) .s)))
  | 70 => (.p .s (.p (.o (.p .s (.p .s (.p .s (.p .s (.p (.o .s) .s)))))) (.p (.o .s) .s)))
  | 71 => (.p .s (.p (.o (.p .s (.p .s (.p .s (.p .s (.p (.o .s) .s)))))) (.p (.o .s) .s)))
  | 72 => (.p .s (.p (.o (.p .s (.p .s (.p .s (.p .s (.p (.o .s) .s)))))) (.p (.o .s) .s)))
  | 73 => (.p .s (.p (.o .s) .s))
  | 74 => (.p .s (.p (.o .s) .s))
  | 93 => (.o (.p .s (.p (.o .s) .s)))
  | 96 => (.p .s (.p (.o .s) .s))
  | 97 => (.p .s (.p (.o .s) .s))
  | 101 => (.p (.o .s) .s)
  | 102 => (.p (.o .s) .s)
  | 106 => (.p (.p (.o (.p (.o .s) (.p (.o .s) .s))) (.p (.o .s) (.p (.o .s) (.p (.o .s) (.p (.o .s) .s))))) .s)
  | 107 => (.p (.p (.o (.p (.o .s) (.p (.o .s) .s))) (.p (.o .s) (.p (.o .s) (.p (.o .s) (.p (.o .s) .s))))) .s)
  | 117 => (.p .s (.p .s (.p .s (.p .s (.p (.o .s) .s)))))
  | 118 => (.p .s (.p .s (.p .s (.p .s (.p (.o .s) .s)))))
  | 154 => (.o (.p .s (.p (.o .s) (.p (.o .s) .s))))
  | 155 => (.p (.p (.o (.p (.o .s) (.p (.o .s) .s))) (.p (.o .s) (.p (.o .s) (.p (.o .s) (.p (.o .s) .s))))) (.p (.o .s) (.p (.o .s) (.p (.o (.p .s (.p (.o .s) (.p (.o .s) .s)))) .s))))
  | 156 => (.p (.p (.o (.p (.o .s) (.p (.o .s) .s))) (.p (.o .s) (.p (.o .s) (.p (.o .s) (.p (.o .s) .s))))) (.p (.o .s) (.p (.o .s) (.p (.o (.p .s (.p (.o .s) (.p (.o .s) .s)))) .s))))
  | 177 => (.o .s)
  | 178 => (.p (.o .s) .s)
  | 179 => (.p (.o .s) .s)
  | 183 => (.o (.o .s))
  | 185 => (.p .s (.p (.o .s) (.p (.o .s) .s)))
  | 186 => (.p .s (.p (.o .s) (.p (.o .s) .s)))
  | 212 => (.p (.o .s) .s)
  | 213 => (.p (.o .s) .s)
  | _ => .s
noncomputable def env_ctx_checker_own : Env := { ty := envTy, eq := envEq, gam := gam_ctx_checker_own, n := Tryz.f47.ntmps, fz := fz_ctx_checker_own, fs := fs_ctx_checker_own, js := js_ctx_checker_own, lv := lv_ctx_checker_own, om := om_ctx_checker_own, al := [0, 19, 22, 23, 24, 25, 98, 99, 100, 101, 102, 107, 108, 109, 110, 111] }
theorem gamOk_ctx_checker_own : EnvFn Tryz.prog env_ctx_checker_own := by
  intro f gs c h
  unfold env_ctx_checker_own gam_ctx_checker_own at h
  simp only at h
  split at h <;> first | (cases h; done) | (cases h; exact h_ctx_has) | (cases h; exact h_ctx_checker_wantm1)
structure Y_ctx_checker_own_5 where
  f3 : It7
  f5 : (Int) × It1
  f13 : List ((Int) × It1)
  f14 : Int
  f15 : Int
  f1000000 : It24

noncomputable def J_ctx_checker_own_5 {R : Type} (k_normal : It7 → ((Int) × It1) → (List ((Int) × It1)) → Int → Int → It24 → Option R) (x : Y_ctx_checker_own_5) : Option R :=
  let v1 := ((List.length x.f1000000.1.1 : Nat) : Int)
  p_ctx_has x.f5.1 v1 fun r2 =>
  p_ctx_checker_wantm1 x.f1000000 r2 (7 : Int) fun b3 =>
  k_normal x.f3 x.f5 x.f13 x.f14 x.f15 b3
noncomputable def Q_ctx_checker_own_5 (x : Y_ctx_checker_own_5) : St := St.ofList [(0, (.al 1000000 [.der])), (3, (.v (.ptr 36 Ty21) .s (some x.f3))), (5, (.v (.ptr 63 (.pair (.int .i64) Ty12)) .s (some x.f5))), (13, (.v (.sl 63 (.pair (.int .i64) Ty12)) .s x.f13)), (14, (.v (.int .i64) .s x.f14)), (15, (.v (.int .i64) .s x.f15)), (1000000, (.v (.ptr 0 (.pair (.pair Ty8 Ty28) (.pair (.int .i64) .unit))) (.o (.p (.p (.o (.p (.o .s) (.p (.o .s) .s))) (.p (.o .s) (.p (.o .s) (.p (.o .s) (.p (.o .s) .s))))) .s)) (some x.f1000000)))]
def jut_ctx_checker_own_5 : Ex → List (Nat × Bool) | .normal => [(0, false), (3, false), (5, false), (13, false), (14, false), (15, false), (1000000, false)] | _ => []
noncomputable def j_ctx_checker_own_5 : Code := match joinC 5 (body Tryz.f47.body) with | some c => c | none => .skip
structure Y_ctx_checker_own_6 where
  f3 : It7
  f13 : List ((Int) × It1)
  f14 : Int
  f15 : Int
  f1000000 : It24

noncomputable def J_ctx_checker_own_6 {R : Type} (k_normal : It7 → (List ((Int) × It1)) → Int → Int → It24 → Option R) (x : Y_ctx_checker_own_6) : Option R :=
  cond (inB x.f15 (List.length x.f13))
  (let v1 := List.getD x.f13 x.f15.toNat ((0 : Int), (([] : List (Int)), (([] : List ((Int) × (Int) × (Int) × (Int) × (List (Int)) × Unit)), ())))
  J_ctx_checker_own_5 (fun w2 w3 w4 w5 w6 w7 =>
  let v8 := List.set (List.replicate 1 (0 : Int)) 0 w3.1
  cond (decide (List.length w7.1.2.1 + List.length v8 ≤ most))
  (let v9 := w7.1.2.1 ++ v8
  k_normal w2 w4 w5 w6 ((w7.1.1, (v9, w7.1.2.2)), w7.2)) none) ⟨x.f3, v1, x.f13, x.f14, x.f15, x.f1000000⟩) none
noncomputable def R_ctx_checker_own_6 {R : Type} (k_normal : It7 → (List ((Int) × It1)) → Int → Int → It24 → Option R) (x : Y_ctx_checker_own_6) : Option R :=
  cond (inB x.f15 (List.length x.f13))
  (let v1 := List.getD x.f13 x.f15.toNat ((0 : Int), (([] : List (Int)), (([] : List ((Int) × (Int) × (Int) × (Int) × (List (Int)) × Unit)), ())))
  J_ctx_checker_own_5 (fun w2 w3 w4 w5 w6 w7 =>
  both
  (let v8 := List.set (List.replicate 1 (0 : Int)) 0 w3.1
  cond (decide (List.length w7.1.2.1 + List.length v8 ≤ most))
  (let v9 := w7.1.2.1 ++ v8
  k_normal w2 w4 w5 w6 ((w7.1.1, (v9, w7.1.2.2)), w7.2)) none)
  (let v10 := List.set (List.replicate 1 (0 : Int)) 0 w3.1
  cond (decide (List.length w7.1.2.1 + List.length v10 ≤ most))
  (let v11 := w7.1.2.1 ++ v10
  k_normal w2 w4 w5 w6 ((w7.1.1, (v11, w7.1.2.2)), w7.2)) none)) ⟨x.f3, v1, x.f13, x.f14, x.f15, x.f1000000⟩) none
theorem req_ctx_checker_own_6 {R : Type} (k_normal : It7 → (List ((Int) × It1)) → Int → Int → It24 → Option R) (x : Y_ctx_checker_own_6) : R_ctx_checker_own_6 (R := R) k_normal x = J_ctx_checker_own_6 (R := R) k_normal x := by
  unfold R_ctx_checker_own_6 J_ctx_checker_own_6
  simp only [both_self]
noncomputable def Q_ctx_checker_own_6 (x : Y_ctx_checker_own_6) : St := St.ofList [(0, (.al 1000000 [.der])), (3, (.v (.ptr 36 Ty21) .s (some x.f3))), (13, (.v (.sl 63 (.pair (.int .i64) Ty12)) .s x.f13)), (14, (.v (.int .i64) .s x.f14)), (15, (.v (.int .i64) .s x.f15)), (1000000, (.v (.ptr 0 (.pair (.pair Ty8 Ty28) (.pair (.int .i64) .unit))) (.o (.p (.p (.o (.p (.o .s) (.p (.o .s) .s))) (.p (.o .s) (.p (.o .s) (.p (.o .s) (.p (.o .s) .s))))) .s)) (some x.f1000000)))]
def jut_ctx_checker_own_6 : Ex → List (Nat × Bool) | .normal => [(0, false), (3, false), (13, false), (14, false), (15, false), (1000000, false)] | _ => []
noncomputable def j_ctx_checker_own_6 : Code := match joinC 6 (body Tryz.f47.body) with | some c => c | none => .skip
structure X_ctx_checker_own_2 where
  f3 : It7
  f13 : List ((Int) × It1)
  f14 : Int
  f15 : Int
  f1000000 : It24

noncomputable def B_ctx_checker_own_2 {R : Type} (k_exit_0 : It7 → It24 → Option R) (rec : X_ctx_checker_own_2 → Option R) (x : X_ctx_checker_own_2) : Option R :=
  let v1 := decide (x.f15 < x.f14)
  cond v1
  (J_ctx_checker_own_6 (fun w2 w3 w4 w5 w6 =>
  let v7 := IntKind.i64.wrap (w5 + (1 : Int))
  rec ⟨w2, w3, w4, v7, w6⟩) ⟨x.f3, x.f13, x.f14, x.f15, x.f1000000⟩)
  (k_exit_0 x.f3 x.f1000000)
noncomputable def S_ctx_checker_own_2 (x : X_ctx_checker_own_2) : St := St.ofList [(0, (.al 1000000 [.der])), (3, (.v (.ptr 36 Ty21) .s (some x.f3))), (13, (.v (.sl 63 (.pair (.int .i64) Ty12)) .s x.f13)), (14, (.v (.int .i64) .s x.f14)), (15, (.v (.int .i64) .s x.f15)), (1000000, (.v (.ptr 0 (.pair (.pair Ty8 Ty28) (.pair (.int .i64) .unit))) (.o (.p (.p (.o (.p (.o .s) (.p (.o .s) .s))) (.p (.o .s) (.p (.o .s) (.p (.o .s) (.p (.o .s) .s))))) .s)) (some x.f1000000)))]
def out_ctx_checker_own_2 : Ex → List (Nat × Bool) | .exit 0 => [(0, false), (3, false), (1000000, false)] | _ => []
noncomputable def fuel_ctx_checker_own_2 (x : X_ctx_checker_own_2) : Nat := fuel64
noncomputable def c_ctx_checker_own_2 : Code := match loopAt 2 (body Tryz.f47.body) with | some c => c | none => .skip
structure Y_ctx_checker_own_11 where
  f3 : It7
  f7 : (Int) × (Bool) × (Int) × Unit
  f45 : List ((Int) × (Bool) × (Int) × Unit)
  f46 : Int
  f47 : Int
  f1000000 : It24

noncomputable def J_ctx_checker_own_11 {R : Type}  (x : Y_ctx_checker_own_11) : Option R :=
  none
noncomputable def Q_ctx_checker_own_11 (x : Y_ctx_checker_own_11) : St := St.ofList [(0, (.al 1000000 [.der])), (3, (.v (.ptr 36 Ty21) .s (some x.f3))), (7, (.v (.ptr 58 (.pair (.int .i64) (.pair .bool (.pair (.int .i64) .unit)))) .s (some x.f7))), (45, (.v (.sl 58 (.pair (.int .i64) (.pair .bool (.pair (.int .i64) .unit)))) .s x.f45)), (46, (.v (.int .i64) .s x.f46)), (47, (.v (.int .i64) .s x.f47)), (1000000, (.v (.ptr 0 (.pair (.pair Ty8 Ty28) (.pair (.int .i64) .unit))) (.o (.p (.p (.o (.p (.o .s) (.p (.o .s) .s))) (.p (.o .s) (.p (.o .s) (.p (.o .s) (.p (.o .s) .s))))) .s)) (some x.f1000000)))]
def jut_ctx_checker_own_11 : Ex → List (Nat × Bool) | _ => []
noncomputable def j_ctx_checker_own_11 : Code := match joinC 11 (body Tryz.f47.body) with | some c => c | none => .skip
structure Y_ctx_checker_own_12 where
  f3 : It7
  f45 : List ((Int) × (Bool) × (Int) × Unit)
  f46 : Int
  f47 : Int
  f1000000 : It24

noncomputable def J_ctx_checker_own_12 {R : Type}  (x : Y_ctx_checker_own_12) : Option R :=
  cond (inB x.f47 (List.length x.f45))
  (let v1 := List.getD x.f45 x.f47.toNat ((0 : Int), (false, ((0 : Int), ())))
  J_ctx_checker_own_11 ⟨x.f3, v1, x.f45, x.f46, x.f47, x.f1000000⟩) none
noncomputable def Q_ctx_checker_own_12 (x : Y_ctx_checker_own_12) : St := St.ofList [(0, (.al 1000000 [.der])), (3, (.v (.ptr 36 Ty21) .s (some x.f3))), (45, (.v (.sl 58 (.pair (.int .i64) (.pair .bool (.pair (.int .i64) .unit)))) .s x.f45)), (46, (.v (.int .i64) .s x.f46)), (47, (.v (.int .i64) .s x.f47)), (1000000, (.v (.ptr 0 (.pair (.pair Ty8 Ty28) (.pair (.int .i64) .unit))) (.o (.p (.p (.o (.p (.o .s) (.p (.o .s) .s))) (.p (.o .s) (.p (.o .s) (.p (.o .s) (.p (.o .s) .s))))) .s)) (some x.f1000000)))]
def jut_ctx_checker_own_12 : Ex → List (Nat × Bool) | _ => []
noncomputable def j_ctx_checker_own_12 : Code := match joinC 12 (body Tryz.f47.body) with | some c => c | none => .skip
structure X_ctx_checker_own_8 where
  f3 : It7
  f45 : List ((Int) × (Bool) × (Int) × Unit)
  f46 : Int
  f47 : Int
  f1000000 : It24

noncomputable def B_ctx_checker_own_8 {R : Type} (k_exit_2 : It7 → It24 → Option R) (rec : X_ctx_checker_own_8 → Option R) (x : X_ctx_checker_own_8) : Option R :=
  let v1 := decide (x.f47 < x.f46)
  cond v1
  (J_ctx_checker_own_12 ⟨x.f3, x.f45, x.f46, x.f47, x.f1000000⟩)
  (k_exit_2 x.f3 x.f1000000)
noncomputable def S_ctx_checker_own_8 (x : X_ctx_checker_own_8) : St := St.ofList [(0, (.al 1000000 [.der])), (3, (.v (.ptr 36 Ty21) .s (some x.f3))), (45, (.v (.sl 58 (.pair (.int .i64) (.pair .bool (.pair (.int .i64) .unit)))) .s x.f45)), (46, (.v (.int .i64) .s x.f46)), (47, (.v (.int .i64) .s x.f47)), (1000000, (.v (.ptr 0 (.pair (.pair Ty8 Ty28) (.pair (.int .i64) .unit))) (.o (.p (.p (.o (.p (.o .s) (.p (.o .s) .s))) (.p (.o .s) (.p (.o .s) (.p (.o .s) (.p (.o .s) .s))))) .s)) (some x.f1000000)))]
def out_ctx_checker_own_8 : Ex → List (Nat × Bool) | .exit 2 => [(0, false), (3, false), (1000000, false)] | _ => []
noncomputable def fuel_ctx_checker_own_8 (x : X_ctx_checker_own_8) : Nat := fuel64
noncomputable def c_ctx_checker_own_8 : Code := match loopAt 8 (body Tryz.f47.body) with | some c => c | none => .skip
structure Y_ctx_checker_own_17 where
  f3 : It7
  f9 : (Int) × (Bool) × (Int) × Unit
  f72 : List ((Int) × (Bool) × (Int) × Unit)
  f73 : Int
  f74 : Int
  f1000000 : It24

noncomputable def J_ctx_checker_own_17 {R : Type}  (x : Y_ctx_checker_own_17) : Option R :=
  none
noncomputable def Q_ctx_checker_own_17 (x : Y_ctx_checker_own_17) : St := St.ofList [(0, (.al 1000000 [.der])), (3, (.v (.ptr 36 Ty21) .s (some x.f3))), (9, (.v (.ptr 58 (.pair (.int .i64) (.pair .bool (.pair (.int .i64) .unit)))) .s (some x.f9))), (72, (.v (.sl 58 (.pair (.int .i64) (.pair .bool (.pair (.int .i64) .unit)))) .s x.f72)), (73, (.v (.int .i64) .s x.f73)), (74, (.v (.int .i64) .s x.f74)), (1000000, (.v (.ptr 0 (.pair (.pair Ty8 Ty28) (.pair (.int .i64) .unit))) (.o (.p (.p (.o (.p (.o .s) (.p (.o .s) .s))) (.p (.o .s) (.p (.o .s) (.p (.o .s) (.p (.o .s) .s))))) .s)) (some x.f1000000)))]
def jut_ctx_checker_own_17 : Ex → List (Nat × Bool) | _ => []
noncomputable def j_ctx_checker_own_17 : Code := match joinC 17 (body Tryz.f47.body) with | some c => c | none => .skip
structure Y_ctx_checker_own_18 where
  f3 : It7
  f72 : List ((Int) × (Bool) × (Int) × Unit)
  f73 : Int
  f74 : Int
  f1000000 : It24

noncomputable def J_ctx_checker_own_18 {R : Type}  (x : Y_ctx_checker_own_18) : Option R :=
  cond (inB x.f74 (List.length x.f72))
  (let v1 := List.getD x.f72 x.f74.toNat ((0 : Int), (false, ((0 : Int), ())))
  J_ctx_checker_own_17 ⟨x.f3, v1, x.f72, x.f73, x.f74, x.f1000000⟩) none
noncomputable def Q_ctx_checker_own_18 (x : Y_ctx_checker_own_18) : St := St.ofList [(0, (.al 1000000 [.der])), (3, (.v (.ptr 36 Ty21) .s (some x.f3))), (72, (.v (.sl 58 (.pair (.int .i64) (.pair .bool (.pair (.int .i64) .unit)))) .s x.f72)), (73, (.v (.int .i64) .s x.f73)), (74, (.v (.int .i64) .s x.f74)), (1000000, (.v (.ptr 0 (.pair (.pair Ty8 Ty28) (.pair (.int .i64) .unit))) (.o (.p (.p (.o (.p (.o .s) (.p (.o .s) .s))) (.p (.o .s) (.p (.o .s) (.p (.o .s) (.p (.o .s) .s))))) .s)) (some x.f1000000)))]
def jut_ctx_checker_own_18 : Ex → List (Nat × Bool) | _ => []
noncomputable def j_ctx_checker_own_18 : Code := match joinC 18 (body Tryz.f47.body) with | some c => c | none => .skip
structure X_ctx_checker_own_14 where
  f3 : It7
  f72 : List ((Int) × (Bool) × (Int) × Unit)
  f73 : Int
  f74 : Int
  f1000000 : It24

noncomputable def B_ctx_checker_own_14 {R : Type} (k_exit_4 : It7 → It24 → Option R) (rec : X_ctx_checker_own_14 → Option R) (x : X_ctx_checker_own_14) : Option R :=
  let v1 := decide (x.f74 < x.f73)
  cond v1
  (J_ctx_checker_own_18 ⟨x.f3, x.f72, x.f73, x.f74, x.f1000000⟩)
  (k_exit_4 x.f3 x.f1000000)
noncomputable def S_ctx_checker_own_14 (x : X_ctx_checker_own_14) : St := St.ofList [(0, (.al 1000000 [.der])), (3, (.v (.ptr 36 Ty21) .s (some x.f3))), (72, (.v (.sl 58 (.pair (.int .i64) (.pair .bool (.pair (.int .i64) .unit)))) .s x.f72)), (73, (.v (.int .i64) .s x.f73)), (74, (.v (.int .i64) .s x.f74)), (1000000, (.v (.ptr 0 (.pair (.pair Ty8 Ty28) (.pair (.int .i64) .unit))) (.o (.p (.p (.o (.p (.o .s) (.p (.o .s) .s))) (.p (.o .s) (.p (.o .s) (.p (.o .s) (.p (.o .s) .s))))) .s)) (some x.f1000000)))]
def out_ctx_checker_own_14 : Ex → List (Nat × Bool) | .exit 4 => [(0, false), (3, false), (1000000, false)] | _ => []
noncomputable def fuel_ctx_checker_own_14 (x : X_ctx_checker_own_14) : Nat := fuel64
noncomputable def c_ctx_checker_own_14 : Code := match loopAt 14 (body Tryz.f47.body) with | some c => c | none => .skip
structure Y_ctx_checker_own_25 where
  f11 : (Int) × It2
  f117 : List ((Int) × It2)
  f118 : Int
  f119 : Int
  f1000000 : It24

noncomputable def J_ctx_checker_own_25 {R : Type}  (x : Y_ctx_checker_own_25) : Option R :=
  none
noncomputable def Q_ctx_checker_own_25 (x : Y_ctx_checker_own_25) : St := St.ofList [(0, (.al 1000000 [.der])), (11, (.v (.ptr 66 (.pair (.int .i64) Ty13)) .s (some x.f11))), (117, (.v (.sl 66 (.pair (.int .i64) Ty13)) .s x.f117)), (118, (.v (.int .i64) .s x.f118)), (119, (.v (.int .i64) .s x.f119)), (1000000, (.v (.ptr 0 (.pair (.pair Ty8 Ty28) (.pair (.int .i64) .unit))) (.o (.p (.p (.o (.p (.o .s) (.p (.o .s) .s))) (.p (.o .s) (.p (.o .s) (.p (.o .s) (.p (.o .s) .s))))) .s)) (some x.f1000000)))]
def jut_ctx_checker_own_25 : Ex → List (Nat × Bool) | _ => []
noncomputable def j_ctx_checker_own_25 : Code := match joinC 25 (body Tryz.f47.body) with | some c => c | none => .skip
structure Y_ctx_checker_own_26 where
  f117 : List ((Int) × It2)
  f118 : Int
  f119 : Int
  f1000000 : It24

noncomputable def J_ctx_checker_own_26 {R : Type}  (x : Y_ctx_checker_own_26) : Option R :=
  cond (inB x.f119 (List.length x.f117))
  (let v1 := List.getD x.f117 x.f119.toNat ((0 : Int), (false, (([] : List ((Int) × (Int) × (Int) × (Int) × (List (Int)) × Unit)), ())))
  J_ctx_checker_own_25 ⟨v1, x.f117, x.f118, x.f119, x.f1000000⟩) none
noncomputable def Q_ctx_checker_own_26 (x : Y_ctx_checker_own_26) : St := St.ofList [(0, (.al 1000000 [.der])), (117, (.v (.sl 66 (.pair (.int .i64) Ty13)) .s x.f117)), (118, (.v (.int .i64) .s x.f118)), (119, (.v (.int .i64) .s x.f119)), (1000000, (.v (.ptr 0 (.pair (.pair Ty8 Ty28) (.pair (.int .i64) .unit))) (.o (.p (.p (.o (.p (.o .s) (.p (.o .s) .s))) (.p (.o .s) (.p (.o .s) (.p (.o .s) (.p (.o .s) .s))))) .s)) (some x.f1000000)))]
def jut_ctx_checker_own_26 : Ex → List (Nat × Bool) | _ => []
noncomputable def j_ctx_checker_own_26 : Code := match joinC 26 (body Tryz.f47.body) with | some c => c | none => .skip
structure X_ctx_checker_own_22 where
  f117 : List ((Int) × It2)
  f118 : Int
  f119 : Int
  f1000000 : It24

noncomputable def B_ctx_checker_own_22 {R : Type} (k_exit_6 : It24 → Option R) (rec : X_ctx_checker_own_22 → Option R) (x : X_ctx_checker_own_22) : Option R :=
  let v1 := decide (x.f119 < x.f118)
  cond v1
  (J_ctx_checker_own_26 ⟨x.f117, x.f118, x.f119, x.f1000000⟩)
  (k_exit_6 x.f1000000)
noncomputable def S_ctx_checker_own_22 (x : X_ctx_checker_own_22) : St := St.ofList [(0, (.al 1000000 [.der])), (117, (.v (.sl 66 (.pair (.int .i64) Ty13)) .s x.f117)), (118, (.v (.int .i64) .s x.f118)), (119, (.v (.int .i64) .s x.f119)), (1000000, (.v (.ptr 0 (.pair (.pair Ty8 Ty28) (.pair (.int .i64) .unit))) (.o (.p (.p (.o (.p (.o .s) (.p (.o .s) .s))) (.p (.o .s) (.p (.o .s) (.p (.o .s) (.p (.o .s) .s))))) .s)) (some x.f1000000)))]
def out_ctx_checker_own_22 : Ex → List (Nat × Bool) | .exit 6 => [(1000000, false)] | _ => []
noncomputable def fuel_ctx_checker_own_22 (x : X_ctx_checker_own_22) : Nat := fuel64
noncomputable def c_ctx_checker_own_22 : Code := match loopAt 22 (body Tryz.f47.body) with | some c => c | none => .skip
noncomputable def lp_ctx_checker_own : Loops := fun z i R st K => match z, i with
  | false, 2 => coerce [(0, false), (3, false), (13, false), (14, false), (15, false), (1000000, false)] st (fun st => mAl 1000000 [.der] (st 0) (mP 36 Ty21 .s (st 3) fun y3 => mV (.sl 63 (.pair (.int .i64) Ty12)) .s (st 13) fun y13 => mV (.int .i64) .s (st 14) fun y14 => mV (.int .i64) .s (st 15) fun y15 => mP 0 (.pair (.pair Ty8 Ty28) (.pair (.int .i64) .unit)) (.o (.p (.p (.o (.p (.o .s) (.p (.o .s) .s))) (.p (.o .s) (.p (.o .s) (.p (.o .s) (.p (.o .s) .s))))) .s)) (st 1000000) fun y1000000 => loopN (B_ctx_checker_own_2 (fun e3 e1000000 => K (.exit 0) (St.ofList [(0, (.al 1000000 [.der])), (3, (.v (.ptr 36 Ty21) .s (some e3))), (1000000, (.v (.ptr 0 (.pair (.pair Ty8 Ty28) (.pair (.int .i64) .unit))) (.o (.p (.p (.o (.p (.o .s) (.p (.o .s) .s))) (.p (.o .s) (.p (.o .s) (.p (.o .s) (.p (.o .s) .s))))) .s)) (some e1000000)))]))) (fuel_ctx_checker_own_2 ⟨y3, y13, y14, y15, y1000000⟩) ⟨y3, y13, y14, y15, y1000000⟩))
  | false, 8 => coerce [(0, false), (3, false), (45, false), (46, false), (47, false), (1000000, false)] st (fun st => mAl 1000000 [.der] (st 0) (mP 36 Ty21 .s (st 3) fun y3 => mV (.sl 58 (.pair (.int .i64) (.pair .bool (.pair (.int .i64) .unit)))) .s (st 45) fun y45 => mV (.int .i64) .s (st 46) fun y46 => mV (.int .i64) .s (st 47) fun y47 => mP 0 (.pair (.pair Ty8 Ty28) (.pair (.int .i64) .unit)) (.o (.p (.p (.o (.p (.o .s) (.p (.o .s) .s))) (.p (.o .s) (.p (.o .s) (.p (.o .s) (.p (.o .s) .s))))) .s)) (st 1000000) fun y1000000 => loopN (B_ctx_checker_own_8 (fun e3 e1000000 => K (.exit 2) (St.ofList [(0, (.al 1000000 [.der])), (3, (.v (.ptr 36 Ty21) .s (some e3))), (1000000, (.v (.ptr 0 (.pair (.pair Ty8 Ty28) (.pair (.int .i64) .unit))) (.o (.p (.p (.o (.p (.o .s) (.p (.o .s) .s))) (.p (.o .s) (.p (.o .s) (.p (.o .s) (.p (.o .s) .s))))) .s)) (some e1000000)))]))) (fuel_ctx_checker_own_8 ⟨y3, y45, y46, y47, y1000000⟩) ⟨y3, y45, y46, y47, y1000000⟩))
  | false, 14 => coerce [(0, false), (3, false), (72, false), (73, false), (74, false), (1000000, false)] st (fun st => mAl 1000000 [.der] (st 0) (mP 36 Ty21 .s (st 3) fun y3 => mV (.sl 58 (.pair (.int .i64) (.pair .bool (.pair (.int .i64) .unit)))) .s (st 72) fun y72 => mV (.int .i64) .s (st 73) fun y73 => mV (.int .i64) .s (st 74) fun y74 => mP 0 (.pair (.pair Ty8 Ty28) (.pair (.int .i64) .unit)) (.o (.p (.p (.o (.p (.o .s) (.p (.o .s) .s))) (.p (.o .s) (.p (.o .s) (.p (.o .s) (.p (.o .s) .s))))) .s)) (st 1000000) fun y1000000 => loopN (B_ctx_checker_own_14 (fun e3 e1000000 => K (.exit 4) (St.ofList [(0, (.al 1000000 [.der])), (3, (.v (.ptr 36 Ty21) .s (some e3))), (1000000, (.v (.ptr 0 (.pair (.pair Ty8 Ty28) (.pair (.int .i64) .unit))) (.o (.p (.p (.o (.p (.o .s) (.p (.o .s) .s))) (.p (.o .s) (.p (.o .s) (.p (.o .s) (.p (.o .s) .s))))) .s)) (some e1000000)))]))) (fuel_ctx_checker_own_14 ⟨y3, y72, y73, y74, y1000000⟩) ⟨y3, y72, y73, y74, y1000000⟩))
  | false, 22 => coerce [(0, false), (117, false), (118, false), (119, false), (1000000, false)] st (fun st => mAl 1000000 [.der] (st 0) (mV (.sl 66 (.pair (.int .i64) Ty13)) .s (st 117) fun y117 => mV (.int .i64) .s (st 118) fun y118 => mV (.int .i64) .s (st 119) fun y119 => mP 0 (.pair (.pair Ty8 Ty28) (.pair (.int .i64) .unit)) (.o (.p (.p (.o (.p (.o .s) (.p (.o .s) .s))) (.p (.o .s) (.p (.o .s) (.p (.o .s) (.p (.o .s) .s))))) .s)) (st 1000000) fun y1000000 => loopN (B_ctx_checker_own_22 (fun e1000000 => K (.exit 6) (St.ofList [(1000000, (.v (.ptr 0 (.pair (.pair Ty8 Ty28) (.pair (.int .i64) .unit))) (.o (.p (.p (.o (.p (.o .s) (.p (.o .s) .s))) (.p (.o .s) (.p (.o .s) (.p (.o .s) (.p (.o .s) .s))))) .s)) (some e1000000)))]))) (fuel_ctx_checker_own_22 ⟨y117, y118, y119, y1000000⟩) ⟨y117, y118, y119, y1000000⟩))
  | true, 5 => coerce [(0, false), (3, false), (5, false), (13, false), (14, false), (15, false), (1000000, false)] st (fun st => mAl 1000000 [.der] (st 0) (mP 36 Ty21 .s (st 3) fun y3 => mP 63 (.pair (.int .i64) Ty12) .s (st 5) fun y5 => mV (.sl 63 (.pair (.int .i64) Ty12)) .s (st 13) fun y13 => mV (.int .i64) .s (st 14) fun y14 => mV (.int .i64) .s (st 15) fun y15 => mP 0 (.pair (.pair Ty8 Ty28) (.pair (.int .i64) .unit)) (.o (.p (.p (.o (.p (.o .s) (.p (.o .s) .s))) (.p (.o .s) (.p (.o .s) (.p (.o .s) (.p (.o .s) .s))))) .s)) (st 1000000) fun y1000000 => J_ctx_checker_own_5 (fun e3 e5 e13 e14 e15 e1000000 => K .normal (St.ofList [(0, (.al 1000000 [.der])), (3, (.v (.ptr 36 Ty21) .s (some e3))), (5, (.v (.ptr 63 (.pair (.int .i64) Ty12)) .s (some e5))), (13, (.v (.sl 63 (.pair (.int .i64) Ty12)) .s e13)), (14, (.v (.int .i64) .s e14)), (15, (.v (.int .i64) .s e15)), (1000000, (.v (.ptr 0 (.pair (.pair Ty8 Ty28) (.pair (.int .i64) .unit))) (.o (.p (.p (.o (.p (.o .s) (.p (.o .s) .s))) (.p (.o .s) (.p (.o .s) (.p (.o .s) (.p (.o .s) .s))))) .s)) (some e1000000)))])) ⟨y3, y5, y13, y14, y15, y1000000⟩))
  | true, 6 => coerce [(0, false), (3, false), (13, false), (14, false), (15, false), (1000000, false)] st (fun st => mAl 1000000 [.der] (st 0) (mP 36 Ty21 .s (st 3) fun y3 => mV (.sl 63 (.pair (.int .i64) Ty12)) .s (st 13) fun y13 => mV (.int .i64) .s (st 14) fun y14 => mV (.int .i64) .s (st 15) fun y15 => mP 0 (.pair (.pair Ty8 Ty28) (.pair (.int .i64) .unit)) (.o (.p (.p (.o (.p (.o .s) (.p (.o .s) .s))) (.p (.o .s) (.p (.o .s) (.p (.o .s) (.p (.o .s) .s))))) .s)) (st 1000000) fun y1000000 => J_ctx_checker_own_6 (fun e3 e13 e14 e15 e1000000 => K .normal (St.ofList [(0, (.al 1000000 [.der])), (3, (.v (.ptr 36 Ty21) .s (some e3))), (13, (.v (.sl 63 (.pair (.int .i64) Ty12)) .s e13)), (14, (.v (.int .i64) .s e14)), (15, (.v (.int .i64) .s e15)), (1000000, (.v (.ptr 0 (.pair (.pair Ty8 Ty28) (.pair (.int .i64) .unit))) (.o (.p (.p (.o (.p (.o .s) (.p (.o .s) .s))) (.p (.o .s) (.p (.o .s) (.p (.o .s) (.p (.o .s) .s))))) .s)) (some e1000000)))])) ⟨y3, y13, y14, y15, y1000000⟩))
  | true, 11 => coerce [(0, false), (3, false), (7, false), (45, false), (46, false), (47, false), (1000000, false)] st (fun st => mAl 1000000 [.der] (st 0) (mP 36 Ty21 .s (st 3) fun y3 => mP 58 (.pair (.int .i64) (.pair .bool (.pair (.int .i64) .unit))) .s (st 7) fun y7 => mV (.sl 58 (.pair (.int .i64) (.pair .bool (.pair (.int .i64) .unit)))) .s (st 45) fun y45 => mV (.int .i64) .s (st 46) fun y46 => mV (.int .i64) .s (st 47) fun y47 => mP 0 (.pair (.pair Ty8 Ty28) (.pair (.int .i64) .unit)) (.o (.p (.p (.o (.p (.o .s) (.p (.o .s) .s))) (.p (.o .s) (.p (.o .s) (.p (.o .s) (.p (.o .s) .s))))) .s)) (st 1000000) fun y1000000 => J_ctx_checker_own_11  ⟨y3, y7, y45, y46, y47, y1000000⟩))
  | true, 12 => coerce [(0, false), (3, false), (45, false), (46, false), (47, false), (1000000, false)] st (fun st => mAl 1000000 [.der] (st 0) (mP 36 Ty21 .s (st 3) fun y3 => mV (.sl 58 (.pair (.int .i64) (.pair .bool (.pair (.int .i64) .unit)))) .s (st 45) fun y45 => mV (.int .i64) .s (st 46) fun y46 => mV (.int .i64) .s (st 47) fun y47 => mP 0 (.pair (.pair Ty8 Ty28) (.pair (.int .i64) .unit)) (.o (.p (.p (.o (.p (.o .s) (.p (.o .s) .s))) (.p (.o .s) (.p (.o .s) (.p (.o .s) (.p (.o .s) .s))))) .s)) (st 1000000) fun y1000000 => J_ctx_checker_own_12  ⟨y3, y45, y46, y47, y1000000⟩))
  | true, 17 => coerce [(0, false), (3, false), (9, false), (72, false), (73, false), (74, false), (1000000, false)] st (fun st => mAl 1000000 [.der] (st 0) (mP 36 Ty21 .s (st 3) fun y3 => mP 58 (.pair (.int .i64) (.pair .bool (.pair (.int .i64) .unit))) .s (st 9) fun y9 => mV (.sl 58 (.pair (.int .i64) (.pair .bool (.pair (.int .i64) .unit)))) .s (st 72) fun y72 => mV (.int .i64) .s (st 73) fun y73 => mV (.int .i64) .s (st 74) fun y74 => mP 0 (.pair (.pair Ty8 Ty28) (.pair (.int .i64) .unit)) (.o (.p (.p (.o (.p (.o .s) (.p (.o .s) .s))) (.p (.o .s) (.p (.o .s) (.p (.o .s) (.p (.o .s) .s))))) .s)) (st 1000000) fun y1000000 => J_ctx_checker_own_17  ⟨y3, y9, y72, y73, y74, y1000000⟩))
  | true, 18 => coerce [(0, false), (3, false), (72, false), (73, false), (74, false), (1000000, false)] st (fun st => mAl 1000000 [.der] (st 0) (mP 36 Ty21 .s (st 3) fun y3 => mV (.sl 58 (.pair (.int .i64) (.pair .bool (.pair (.int .i64) .unit)))) .s (st 72) fun y72 => mV (.int .i64) .s (st 73) fun y73 => mV (.int .i64) .s (st 74) fun y74 => mP 0 (.pair (.pair Ty8 Ty28) (.pair (.int .i64) .unit)) (.o (.p (.p (.o (.p (.o .s) (.p (.o .s) .s))) (.p (.o .s) (.p (.o .s) (.p (.o .s) (.p (.o .s) .s))))) .s)) (st 1000000) fun y1000000 => J_ctx_checker_own_18  ⟨y3, y72, y73, y74, y1000000⟩))
  | true, 25 => coerce [(0, false), (11, false), (117, false), (118, false), (119, false), (1000000, false)] st (fun st => mAl 1000000 [.der] (st 0) (mP 66 (.pair (.int .i64) Ty13) .s (st 11) fun y11 => mV (.sl 66 (.pair (.int .i64) Ty13)) .s (st 117) fun y117 => mV (.int .i64) .s (st 118) fun y118 => mV (.int .i64) .s (st 119) fun y119 => mP 0 (.pair (.pair Ty8 Ty28) (.pair (.int .i64) .unit)) (.o (.p (.p (.o (.p (.o .s) (.p (.o .s) .s))) (.p (.o .s) (.p (.o .s) (.p (.o .s) (.p (.o .s) .s))))) .s)) (st 1000000) fun y1000000 => J_ctx_checker_own_25  ⟨y11, y117, y118, y119, y1000000⟩))
  | true, 26 => coerce [(0, false), (117, false), (118, false), (119, false), (1000000, false)] st (fun st => mAl 1000000 [.der] (st 0) (mV (.sl 66 (.pair (.int .i64) Ty13)) .s (st 117) fun y117 => mV (.int .i64) .s (st 118) fun y118 => mV (.int .i64) .s (st 119) fun y119 => mP 0 (.pair (.pair Ty8 Ty28) (.pair (.int .i64) .unit)) (.o (.p (.p (.o (.p (.o .s) (.p (.o .s) .s))) (.p (.o .s) (.p (.o .s) (.p (.o .s) (.p (.o .s) .s))))) .s)) (st 1000000) fun y1000000 => J_ctx_checker_own_26  ⟨y117, y118, y119, y1000000⟩))
  | _, _ => none
theorem jstep_ctx_checker_own_5 (R : Type) (K : Ex → St → Option R) (x : Y_ctx_checker_own_5) : evC env_ctx_checker_own lp_ctx_checker_own inl0 j_ctx_checker_own_5 (Q_ctx_checker_own_5 x) (fun e st => coerce (jut_ctx_checker_own_5 e) st (K e)) = J_ctx_checker_own_5 (fun e3 e5 e13 e14 e15 e1000000 => K .normal (St.ofList [(0, (.al 1000000 [.der])), (3, (.v (.ptr 36 Ty21) .s (some e3))), (5, (.v (.ptr 63 (.pair (.int .i64) Ty12)) .s (some e5))), (13, (.v (.sl 63 (.pair (.int .i64) Ty12)) .s e13)), (14, (.v (.int .i64) .s e14)), (15, (.v (.int .i64) .s e15)), (1000000, (.v (.ptr 0 (.pair (.pair Ty8 Ty28) (.pair (.int .i64) .unit))) (.o (.p (.p (.o (.p (.o .s) (.p (.o .s) .s))) (.p (.o .s) (.p (.o .s) (.p (.o .s) (.p (.o .s) .s))))) .s)) (some e1000000)))])) x := by kernel_rfl
theorem jok_ctx_checker_own_5 : JoinOk env_ctx_checker_own lp_ctx_checker_own inl0 j_ctx_checker_own_5 5 := by
  refine joinOk_of (hd := [(0, false), (3, false), (5, false), (13, false), (14, false), (15, false), (1000000, false)]) (out := jut_ctx_checker_own_5) (S := Q_ctx_checker_own_5) (fun _ K => J_ctx_checker_own_5 (fun e3 e5 e13 e14 e15 e1000000 => K .normal (St.ofList [(0, (.al 1000000 [.der])), (3, (.v (.ptr 36 Ty21) .s (some e3))), (5, (.v (.ptr 63 (.pair (.int .i64) Ty12)) .s (some e5))), (13, (.v (.sl 63 (.pair (.int .i64) Ty12)) .s e13)), (14, (.v (.int .i64) .s e14)), (15, (.v (.int .i64) .s e15)), (1000000, (.v (.ptr 0 (.pair (.pair Ty8 Ty28) (.pair (.int .i64) .unit))) (.o (.p (.p (.o (.p (.o .s) (.p (.o .s) .s))) (.p (.o .s) (.p (.o .s) (.p (.o .s) (.p (.o .s) .s))))) .s)) (some e1000000)))]))) 5 jstep_ctx_checker_own_5 (fun R K => fun st => mAl 1000000 [.der] (st 0) (mP 36 Ty21 .s (st 3) fun y3 => mP 63 (.pair (.int .i64) Ty12) .s (st 5) fun y5 => mV (.sl 63 (.pair (.int .i64) Ty12)) .s (st 13) fun y13 => mV (.int .i64) .s (st 14) fun y14 => mV (.int .i64) .s (st 15) fun y15 => mP 0 (.pair (.pair Ty8 Ty28) (.pair (.int .i64) .unit)) (.o (.p (.p (.o (.p (.o .s) (.p (.o .s) .s))) (.p (.o .s) (.p (.o .s) (.p (.o .s) (.p (.o .s) .s))))) .s)) (st 1000000) fun y1000000 => J_ctx_checker_own_5 (fun e3 e5 e13 e14 e15 e1000000 => K .normal (St.ofList [(0, (.al 1000000 [.der])), (3, (.v (.ptr 36 Ty21) .s (some e3))), (5, (.v (.ptr 63 (.pair (.int .i64) Ty12)) .s (some e5))), (13, (.v (.sl 63 (.pair (.int .i64) Ty12)) .s e13)), (14, (.v (.int .i64) .s e14)), (15, (.v (.int .i64) .s e15)), (1000000, (.v (.ptr 0 (.pair (.pair Ty8 Ty28) (.pair (.int .i64) .unit))) (.o (.p (.p (.o (.p (.o .s) (.p (.o .s) .s))) (.p (.o .s) (.p (.o .s) (.p (.o .s) (.p (.o .s) .s))))) .s)) (some e1000000)))])) ⟨y3, y5, y13, y14, y15, y1000000⟩)) (fun R st K => by kernel_rfl) ?_
  intro R K st r h
  obtain ⟨hy0, h⟩ := mAl_inv h
  obtain ⟨y3, hy3, h⟩ := mP_inv h
  obtain ⟨y5, hy5, h⟩ := mP_inv h
  obtain ⟨y13, hy13, h⟩ := mV_inv h
  obtain ⟨y14, hy14, h⟩ := mV_inv h
  obtain ⟨y15, hy15, h⟩ := mV_inv h
  obtain ⟨y1000000, hy1000000, h⟩ := mP_inv h
  exact ⟨⟨y3, y5, y13, y14, y15, y1000000⟩, only_of_list (ofList_cons hy0 (ofList_cons hy3 (ofList_cons hy5 (ofList_cons hy13 (ofList_cons hy14 (ofList_cons hy15 (ofList_cons hy1000000 rfl))))))), h⟩
theorem jstep_ctx_checker_own_6 (R : Type) (K : Ex → St → Option R) (x : Y_ctx_checker_own_6) : evC env_ctx_checker_own lp_ctx_checker_own inl0 j_ctx_checker_own_6 (Q_ctx_checker_own_6 x) (fun e st => coerce (jut_ctx_checker_own_6 e) st (K e)) = J_ctx_checker_own_6 (fun e3 e13 e14 e15 e1000000 => K .normal (St.ofList [(0, (.al 1000000 [.der])), (3, (.v (.ptr 36 Ty21) .s (some e3))), (13, (.v (.sl 63 (.pair (.int .i64) Ty12)) .s e13)), (14, (.v (.int .i64) .s e14)), (15, (.v (.int .i64) .s e15)), (1000000, (.v (.ptr 0 (.pair (.pair Ty8 Ty28) (.pair (.int .i64) .unit))) (.o (.p (.p (.o (.p (.o .s) (.p (.o .s) .s))) (.p (.o .s) (.p (.o .s) (.p (.o .s) (.p (.o .s) .s))))) .s)) (some e1000000)))])) x := by
  have h : evC env_ctx_checker_own lp_ctx_checker_own inl0 j_ctx_checker_own_6 (Q_ctx_checker_own_6 x) (fun e st => coerce (jut_ctx_checker_own_6 e) st (K e)) = R_ctx_checker_own_6 (fun e3 e13 e14 e15 e1000000 => K .normal (St.ofList [(0, (.al 1000000 [.der])), (3, (.v (.ptr 36 Ty21) .s (some e3))), (13, (.v (.sl 63 (.pair (.int .i64) Ty12)) .s e13)), (14, (.v (.int .i64) .s e14)), (15, (.v (.int .i64) .s e15)), (1000000, (.v (.ptr 0 (.pair (.pair Ty8 Ty28) (.pair (.int .i64) .unit))) (.o (.p (.p (.o (.p (.o .s) (.p (.o .s) .s))) (.p (.o .s) (.p (.o .s) (.p (.o .s) (.p (.o .s) .s))))) .s)) (some e1000000)))])) x := by kernel_rfl
  rw [h, req_ctx_checker_own_6]
theorem jok_ctx_checker_own_6 : JoinOk env_ctx_checker_own lp_ctx_checker_own inl0 j_ctx_checker_own_6 6 := by
  refine joinOk_of (hd := [(0, false), (3, false), (13, false), (14, false), (15, false), (1000000, false)]) (out := jut_ctx_checker_own_6) (S := Q_ctx_checker_own_6) (fun _ K => J_ctx_checker_own_6 (fun e3 e13 e14 e15 e1000000 => K .normal (St.ofList [(0, (.al 1000000 [.der])), (3, (.v (.ptr 36 Ty21) .s (some e3))), (13, (.v (.sl 63 (.pair (.int .i64) Ty12)) .s e13)), (14, (.v (.int .i64) .s e14)), (15, (.v (.int .i64) .s e15)), (1000000, (.v (.ptr 0 (.pair (.pair Ty8 Ty28) (.pair (.int .i64) .unit))) (.o (.p (.p (.o (.p (.o .s) (.p (.o .s) .s))) (.p (.o .s) (.p (.o .s) (.p (.o .s) (.p (.o .s) .s))))) .s)) (some e1000000)))]))) 6 jstep_ctx_checker_own_6 (fun R K => fun st => mAl 1000000 [.der] (st 0) (mP 36 Ty21 .s (st 3) fun y3 => mV (.sl 63 (.pair (.int .i64) Ty12)) .s (st 13) fun y13 => mV (.int .i64) .s (st 14) fun y14 => mV (.int .i64) .s (st 15) fun y15 => mP 0 (.pair (.pair Ty8 Ty28) (.pair (.int .i64) .unit)) (.o (.p (.p (.o (.p (.o .s) (.p (.o .s) .s))) (.p (.o .s) (.p (.o .s) (.p (.o .s) (.p (.o .s) .s))))) .s)) (st 1000000) fun y1000000 => J_ctx_checker_own_6 (fun e3 e13 e14 e15 e1000000 => K .normal (St.ofList [(0, (.al 1000000 [.der])), (3, (.v (.ptr 36 Ty21) .s (some e3))), (13, (.v (.sl 63 (.pair (.int .i64) Ty12)) .s e13)), (14, (.v (.int .i64) .s e14)), (15, (.v (.int .i64) .s e15)), (1000000, (.v (.ptr 0 (.pair (.pair Ty8 Ty28) (.pair (.int .i64) .unit))) (.o (.p (.p (.o (.p (.o .s) (.p (.o .s) .s))) (.p (.o .s) (.p (.o .s) (.p (.o .s) (.p (.o .s) .s))))) .s)) (some e1000000)))])) ⟨y3, y13, y14, y15, y1000000⟩)) (fun R st K => by kernel_rfl) ?_
  intro R K st r h
  obtain ⟨hy0, h⟩ := mAl_inv h
  obtain ⟨y3, hy3, h⟩ := mP_inv h
  obtain ⟨y13, hy13, h⟩ := mV_inv h
  obtain ⟨y14, hy14, h⟩ := mV_inv h
  obtain ⟨y15, hy15, h⟩ := mV_inv h
  obtain ⟨y1000000, hy1000000, h⟩ := mP_inv h
  exact ⟨⟨y3, y13, y14, y15, y1000000⟩, only_of_list (ofList_cons hy0 (ofList_cons hy3 (ofList_cons hy13 (ofList_cons hy14 (ofList_cons hy15 (ofList_cons hy1000000 rfl)))))), h⟩
theorem step_ctx_checker_own_2 (R : Type) (K : Ex → St → Option R) (rec : St → Option R) (x : X_ctx_checker_own_2) : evC env_ctx_checker_own lp_ctx_checker_own inl0 c_ctx_checker_own_2 (S_ctx_checker_own_2 x) (fun e st => match e with | .normal => coerce [(0, false), (3, false), (13, false), (14, false), (15, false), (1000000, false)] st rec | e => coerce (out_ctx_checker_own_2 e) st (K e)) = B_ctx_checker_own_2 (fun e3 e1000000 => K (.exit 0) (St.ofList [(0, (.al 1000000 [.der])), (3, (.v (.ptr 36 Ty21) .s (some e3))), (1000000, (.v (.ptr 0 (.pair (.pair Ty8 Ty28) (.pair (.int .i64) .unit))) (.o (.p (.p (.o (.p (.o .s) (.p (.o .s) .s))) (.p (.o .s) (.p (.o .s) (.p (.o .s) (.p (.o .s) .s))))) .s)) (some e1000000)))])) (fun x => rec (S_ctx_checker_own_2 x)) x := by kernel_rfl
theorem ok_ctx_checker_own_2 : LoopOk env_ctx_checker_own lp_ctx_checker_own inl0 c_ctx_checker_own_2 := by
  refine loopOk_of (hd := [(0, false), (3, false), (13, false), (14, false), (15, false), (1000000, false)]) (out := out_ctx_checker_own_2) (S := S_ctx_checker_own_2) (fun _ K => B_ctx_checker_own_2 (fun e3 e1000000 => K (.exit 0) (St.ofList [(0, (.al 1000000 [.der])), (3, (.v (.ptr 36 Ty21) .s (some e3))), (1000000, (.v (.ptr 0 (.pair (.pair Ty8 Ty28) (.pair (.int .i64) .unit))) (.o (.p (.p (.o (.p (.o .s) (.p (.o .s) .s))) (.p (.o .s) (.p (.o .s) (.p (.o .s) (.p (.o .s) .s))))) .s)) (some e1000000)))]))) fuel_ctx_checker_own_2 2 step_ctx_checker_own_2 (by kernel_rfl) (fun R K => fun st => mAl 1000000 [.der] (st 0) (mP 36 Ty21 .s (st 3) fun y3 => mV (.sl 63 (.pair (.int .i64) Ty12)) .s (st 13) fun y13 => mV (.int .i64) .s (st 14) fun y14 => mV (.int .i64) .s (st 15) fun y15 => mP 0 (.pair (.pair Ty8 Ty28) (.pair (.int .i64) .unit)) (.o (.p (.p (.o (.p (.o .s) (.p (.o .s) .s))) (.p (.o .s) (.p (.o .s) (.p (.o .s) (.p (.o .s) .s))))) .s)) (st 1000000) fun y1000000 => loopN (B_ctx_checker_own_2 (fun e3 e1000000 => K (.exit 0) (St.ofList [(0, (.al 1000000 [.der])), (3, (.v (.ptr 36 Ty21) .s (some e3))), (1000000, (.v (.ptr 0 (.pair (.pair Ty8 Ty28) (.pair (.int .i64) .unit))) (.o (.p (.p (.o (.p (.o .s) (.p (.o .s) .s))) (.p (.o .s) (.p (.o .s) (.p (.o .s) (.p (.o .s) .s))))) .s)) (some e1000000)))]))) (fuel_ctx_checker_own_2 ⟨y3, y13, y14, y15, y1000000⟩) ⟨y3, y13, y14, y15, y1000000⟩)) (fun R st K => by kernel_rfl) ?_
  intro R K st r h
  obtain ⟨hy0, h⟩ := mAl_inv h
  obtain ⟨y3, hy3, h⟩ := mP_inv h
  obtain ⟨y13, hy13, h⟩ := mV_inv h
  obtain ⟨y14, hy14, h⟩ := mV_inv h
  obtain ⟨y15, hy15, h⟩ := mV_inv h
  obtain ⟨y1000000, hy1000000, h⟩ := mP_inv h
  exact ⟨⟨y3, y13, y14, y15, y1000000⟩, only_of_list (ofList_cons hy0 (ofList_cons hy3 (ofList_cons hy13 (ofList_cons hy14 (ofList_cons hy15 (ofList_cons hy1000000 rfl)))))), h⟩
theorem jstep_ctx_checker_own_11 (R : Type) (K : Ex → St → Option R) (x : Y_ctx_checker_own_11) : evC env_ctx_checker_own lp_ctx_checker_own inl0 j_ctx_checker_own_11 (Q_ctx_checker_own_11 x) (fun e st => coerce (jut_ctx_checker_own_11 e) st (K e)) = J_ctx_checker_own_11  x := by kernel_rfl
theorem jok_ctx_checker_own_11 : JoinOk env_ctx_checker_own lp_ctx_checker_own inl0 j_ctx_checker_own_11 11 := by
  refine joinOk_of (hd := [(0, false), (3, false), (7, false), (45, false), (46, false), (47, false), (1000000, false)]) (out := jut_ctx_checker_own_11) (S := Q_ctx_checker_own_11) (fun _ K => J_ctx_checker_own_11 ) 11 jstep_ctx_checker_own_11 (fun R K => fun st => mAl 1000000 [.der] (st 0) (mP 36 Ty21 .s (st 3) fun y3 => mP 58 (.pair (.int .i64) (.pair .bool (.pair (.int .i64) .unit))) .s (st 7) fun y7 => mV (.sl 58 (.pair (.int .i64) (.pair .bool (.pair (.int .i64) .unit)))) .s (st 45) fun y45 => mV (.int .i64) .s (st 46) fun y46 => mV (.int .i64) .s (st 47) fun y47 => mP 0 (.pair (.pair Ty8 Ty28) (.pair (.int .i64) .unit)) (.o (.p (.p (.o (.p (.o .s) (.p (.o .s) .s))) (.p (.o .s) (.p (.o .s) (.p (.o .s) (.p (.o .s) .s))))) .s)) (st 1000000) fun y1000000 => J_ctx_checker_own_11  ⟨y3, y7, y45, y46, y47, y1000000⟩)) (fun R st K => by kernel_rfl) ?_
  intro R K st r h
  obtain ⟨hy0, h⟩ := mAl_inv h
  obtain ⟨y3, hy3, h⟩ := mP_inv h
  obtain ⟨y7, hy7, h⟩ := mP_inv h
  obtain ⟨y45, hy45, h⟩ := mV_inv h
  obtain ⟨y46, hy46, h⟩ := mV_inv h
  obtain ⟨y47, hy47, h⟩ := mV_inv h
  obtain ⟨y1000000, hy1000000, h⟩ := mP_inv h
  exact ⟨⟨y3, y7, y45, y46, y47, y1000000⟩, only_of_list (ofList_cons hy0 (ofList_cons hy3 (ofList_cons hy7 (ofList_cons hy45 (ofList_cons hy46 (ofList_cons hy47 (ofList_cons hy1000000 rfl))))))), h⟩
theorem jstep_ctx_checker_own_12 (R : Type) (K : Ex → St → Option R) (x : Y_ctx_checker_own_12) : evC env_ctx_checker_own lp_ctx_checker_own inl0 j_ctx_checker_own_12 (Q_ctx_checker_own_12 x) (fun e st => coerce (jut_ctx_checker_own_12 e) st (K e)) = J_ctx_checker_own_12  x := by kernel_rfl
theorem jok_ctx_checker_own_12 : JoinOk env_ctx_checker_own lp_ctx_checker_own inl0 j_ctx_checker_own_12 12 := by
  refine joinOk_of (hd := [(0, false), (3, false), (45, false), (46, false), (47, false), (1000000, false)]) (out := jut_ctx_checker_own_12) (S := Q_ctx_checker_own_12) (fun _ K => J_ctx_checker_own_12 ) 12 jstep_ctx_checker_own_12 (fun R K => fun st => mAl 1000000 [.der] (st 0) (mP 36 Ty21 .s (st 3) fun y3 => mV (.sl 58 (.pair (.int .i64) (.pair .bool (.pair (.int .i64) .unit)))) .s (st 45) fun y45 => mV (.int .i64) .s (st 46) fun y46 => mV (.int .i64) .s (st 47) fun y47 => mP 0 (.pair (.pair Ty8 Ty28) (.pair (.int .i64) .unit)) (.o (.p (.p (.o (.p (.o .s) (.p (.o .s) .s))) (.p (.o .s) (.p (.o .s) (.p (.o .s) (.p (.o .s) .s))))) .s)) (st 1000000) fun y1000000 => J_ctx_checker_own_12  ⟨y3, y45, y46, y47, y1000000⟩)) (fun R st K => by kernel_rfl) ?_
  intro R K st r h
  obtain ⟨hy0, h⟩ := mAl_inv h
  obtain ⟨y3, hy3, h⟩ := mP_inv h
  obtain ⟨y45, hy45, h⟩ := mV_inv h
  obtain ⟨y46, hy46, h⟩ := mV_inv h
  obtain ⟨y47, hy47, h⟩ := mV_inv h
  obtain ⟨y1000000, hy1000000, h⟩ := mP_inv h
  exact ⟨⟨y3, y45, y46, y47, y1000000⟩, only_of_list (ofList_cons hy0 (ofList_cons hy3 (ofList_cons hy45 (ofList_cons hy46 (ofList_cons hy47 (ofList_cons hy1000000 rfl)))))), h⟩
theorem step_ctx_checker_own_8 (R : Type) (K : Ex → St → Option R) (rec : St → Option R) (x : X_ctx_checker_own_8) : evC env_ctx_checker_own lp_ctx_checker_own inl0 c_ctx_checker_own_8 (S_ctx_checker_own_8 x) (fun e st => match e with | .normal => coerce [(0, false), (3, false), (45, false), (46, false), (47, false), (1000000, false)] st rec | e => coerce (out_ctx_checker_own_8 e) st (K e)) = B_ctx_checker_own_8 (fun e3 e1000000 => K (.exit 2) (St.ofList [(0, (.al 1000000 [.der])), (3, (.v (.ptr 36 Ty21) .s (some e3))), (1000000, (.v (.ptr 0 (.pair (.pair Ty8 Ty28) (.pair (.int .i64) .unit))) (.o (.p (.p (.o (.p (.o .s) (.p (.o .s) .s))) (.p (.o .s) (.p (.o .s) (.p (.o .s) (.p (.o .s) .s))))) .s)) (some e1000000)))])) (fun x => rec (S_ctx_checker_own_8 x)) x := by kernel_rfl
theorem ok_ctx_checker_own_8 : LoopOk env_ctx_checker_own lp_ctx_checker_own inl0 c_ctx_checker_own_8 := by
  refine loopOk_of (hd := [(0, false), (3, false), (45, false), (46, false), (47, false), (1000000, false)]) (out := out_ctx_checker_own_8) (S := S_ctx_checker_own_8) (fun _ K => B_ctx_checker_own_8 (fun e3 e1000000 => K (.exit 2) (St.ofList [(0, (.al 1000000 [.der])), (3, (.v (.ptr 36 Ty21) .s (some e3))), (1000000, (.v (.ptr 0 (.pair (.pair Ty8 Ty28) (.pair (.int .i64) .unit))) (.o (.p (.p (.o (.p (.o .s) (.p (.o .s) .s))) (.p (.o .s) (.p (.o .s) (.p (.o .s) (.p (.o .s) .s))))) .s)) (some e1000000)))]))) fuel_ctx_checker_own_8 8 step_ctx_checker_own_8 (by kernel_rfl) (fun R K => fun st => mAl 1000000 [.der] (st 0) (mP 36 Ty21 .s (st 3) fun y3 => mV (.sl 58 (.pair (.int .i64) (.pair .bool (.pair (.int .i64) .unit)))) .s (st 45) fun y45 => mV (.int .i64) .s (st 46) fun y46 => mV (.int .i64) .s (st 47) fun y47 => mP 0 (.pair (.pair Ty8 Ty28) (.pair (.int .i64) .unit)) (.o (.p (.p (.o (.p (.o .s) (.p (.o .s) .s))) (.p (.o .s) (.p (.o .s) (.p (.o .s) (.p (.o .s) .s))))) .s)) (st 1000000) fun y1000000 => loopN (B_ctx_checker_own_8 (fun e3 e1000000 => K (.exit 2) (St.ofList [(0, (.al 1000000 [.der])), (3, (.v (.ptr 36 Ty21) .s (some e3))), (1000000, (.v (.ptr 0 (.pair (.pair Ty8 Ty28) (.pair (.int .i64) .unit))) (.o (.p (.p (.o (.p (.o .s) (.p (.o .s) .s))) (.p (.o .s) (.p (.o .s) (.p (.o .s) (.p (.o .s) .s))))) .s)) (some e1000000)))]))) (fuel_ctx_checker_own_8 ⟨y3, y45, y46, y47, y1000000⟩) ⟨y3, y45, y46, y47, y1000000⟩)) (fun R st K => by kernel_rfl) ?_
  intro R K st r h
  obtain ⟨hy0, h⟩ := mAl_inv h
  obtain ⟨y3, hy3, h⟩ := mP_inv h
  obtain ⟨y45, hy45, h⟩ := mV_inv h
  obtain ⟨y46, hy46, h⟩ := mV_inv h
  obtain ⟨y47, hy47, h⟩ := mV_inv h
  obtain ⟨y1000000, hy1000000, h⟩ := mP_inv h
  exact ⟨⟨y3, y45, y46, y47, y1000000⟩, only_of_list (ofList_cons hy0 (ofList_cons hy3 (ofList_cons hy45 (ofList_cons hy46 (ofList_cons hy47 (ofList_cons hy1000000 rfl)))))), h⟩
theorem jstep_ctx_checker_own_17 (R : Type) (K : Ex → St → Option R) (x : Y_ctx_checker_own_17) : evC env_ctx_checker_own lp_ctx_checker_own inl0 j_ctx_checker_own_17 (Q_ctx_checker_own_17 x) (fun e st => coerce (jut_ctx_checker_own_17 e) st (K e)) = J_ctx_checker_own_17  x := by kernel_rfl
theorem jok_ctx_checker_own_17 : JoinOk env_ctx_checker_own lp_ctx_checker_own inl0 j_ctx_checker_own_17 17 := by
  refine joinOk_of (hd := [(0, false), (3, false), (9, false), (72, false), (73, false), (74, false), (1000000, false)]) (out := jut_ctx_checker_own_17) (S := Q_ctx_checker_own_17) (fun _ K => J_ctx_checker_own_17 ) 17 jstep_ctx_checker_own_17 (fun R K => fun st => mAl 1000000 [.der] (st 0) (mP 36 Ty21 .s (st 3) fun y3 => mP 58 (.pair (.int .i64) (.pair .bool (.pair (.int .i64) .unit))) .s (st 9) fun y9 => mV (.sl 58 (.pair (.int .i64) (.pair .bool (.pair (.int .i64) .unit)))) .s (st 72) fun y72 => mV (.int .i64) .s (st 73) fun y73 => mV (.int .i64) .s (st 74) fun y74 => mP 0 (.pair (.pair Ty8 Ty28) (.pair (.int .i64) .unit)) (.o (.p (.p (.o (.p (.o .s) (.p (.o .s) .s))) (.p (.o .s) (.p (.o .s) (.p (.o .s) (.p (.o .s) .s))))) .s)) (st 1000000) fun y1000000 => J_ctx_checker_own_17  ⟨y3, y9, y72, y73, y74, y1000000⟩)) (fun R st K => by kernel_rfl) ?_
  intro R K st r h
  obtain ⟨hy0, h⟩ := mAl_inv h
  obtain ⟨y3, hy3, h⟩ := mP_inv h
  obtain ⟨y9, hy9, h⟩ := mP_inv h
  obtain ⟨y72, hy72, h⟩ := mV_inv h
  obtain ⟨y73, hy73, h⟩ := mV_inv h
  obtain ⟨y74, hy74, h⟩ := mV_inv h
  obtain ⟨y1000000, hy1000000, h⟩ := mP_inv h
  exact ⟨⟨y3, y9, y72, y73, y74, y1000000⟩, only_of_list (ofList_cons hy0 (ofList_cons hy3 (ofList_cons hy9 (ofList_cons hy72 (ofList_cons hy73 (ofList_cons hy74 (ofList_cons hy1000000 rfl))))))), h⟩
theorem jstep_ctx_checker_own_18 (R : Type) (K : Ex → St → Option R) (x : Y_ctx_checker_own_18) : evC env_ctx_checker_own lp_ctx_checker_own inl0 j_ctx_checker_own_18 (Q_ctx_checker_own_18 x) (fun e st => coerce (jut_ctx_checker_own_18 e) st (K e)) = J_ctx_checker_own_18  x := by kernel_rfl
theorem jok_ctx_checker_own_18 : JoinOk env_ctx_checker_own lp_ctx_checker_own inl0 j_ctx_checker_own_18 18 := by
  refine joinOk_of (hd := [(0, false), (3, false), (72, false), (73, false), (74, false), (1000000, false)]) (out := jut_ctx_checker_own_18) (S := Q_ctx_checker_own_18) (fun _ K => J_ctx_checker_own_18 ) 18 jstep_ctx_checker_own_18 (fun R K => fun st => mAl 1000000 [.der] (st 0) (mP 36 Ty21 .s (st 3) fun y3 => mV (.sl 58 (.pair (.int .i64) (.pair .bool (.pair (.int .i64) .unit)))) .s (st 72) fun y72 => mV (.int .i64) .s (st 73) fun y73 => mV (.int .i64) .s (st 74) fun y74 => mP 0 (.pair (.pair Ty8 Ty28) (.pair (.int .i64) .unit)) (.o (.p (.p (.o (.p (.o .s) (.p (.o .s) .s))) (.p (.o .s) (.p (.o .s) (.p (.o .s) (.p (.o .s) .s))))) .s)) (st 1000000) fun y1000000 => J_ctx_checker_own_18  ⟨y3, y72, y73, y74, y1000000⟩)) (fun R st K => by kernel_rfl) ?_
  intro R K st r h
  obtain ⟨hy0, h⟩ := mAl_inv h
  obtain ⟨y3, hy3, h⟩ := mP_inv h
  obtain ⟨y72, hy72, h⟩ := mV_inv h
  obtain ⟨y73, hy73, h⟩ := mV_inv h
  obtain ⟨y74, hy74, h⟩ := mV_inv h
  obtain ⟨y1000000, hy1000000, h⟩ := mP_inv h
  exact ⟨⟨y3, y72, y73, y74, y1000000⟩, only_of_list (ofList_cons hy0 (ofList_cons hy3 (ofList_cons hy72 (ofList_cons hy73 (ofList_cons hy74 (ofList_cons hy1000000 rfl)))))), h⟩
theorem step_ctx_checker_own_14 (R : Type) (K : Ex → St → Option R) (rec : St → Option R) (x : X_ctx_checker_own_14) : evC env_ctx_checker_own lp_ctx_checker_own inl0 c_ctx_checker_own_14 (S_ctx_checker_own_14 x) (fun e st => match e with | .normal => coerce [(0, false), (3, false), (72, false), (73, false), (74, false), (1000000, false)] st rec | e => coerce (out_ctx_checker_own_14 e) st (K e)) = B_ctx_checker_own_14 (fun e3 e1000000 => K (.exit 4) (St.ofList [(0, (.al 1000000 [.der])), (3, (.v (.ptr 36 Ty21) .s (some e3))), (1000000, (.v (.ptr 0 (.pair (.pair Ty8 Ty28) (.pair (.int .i64) .unit))) (.o (.p (.p (.o (.p (.o .s) (.p (.o .s) .s))) (.p (.o .s) (.p (.o .s) (.p (.o .s) (.p (.o .s) .s))))) .s)) (some e1000000)))])) (fun x => rec (S_ctx_checker_own_14 x)) x := by kernel_rfl
theorem ok_ctx_checker_own_14 : LoopOk env_ctx_checker_own lp_ctx_checker_own inl0 c_ctx_checker_own_14 := by
  refine loopOk_of (hd := [(0, false), (3, false), (72, false), (73, false), (74, false), (1000000, false)]) (out := out_ctx_checker_own_14) (S := S_ctx_checker_own_14) (fun _ K => B_ctx_checker_own_14 (fun e3 e1000000 => K (.exit 4) (St.ofList [(0, (.al 1000000 [.der])), (3, (.v (.ptr 36 Ty21) .s (some e3))), (1000000, (.v (.ptr 0 (.pair (.pair Ty8 Ty28) (.pair (.int .i64) .unit))) (.o (.p (.p (.o (.p (.o .s) (.p (.o .s) .s))) (.p (.o .s) (.p (.o .s) (.p (.o .s) (.p (.o .s) .s))))) .s)) (some e1000000)))]))) fuel_ctx_checker_own_14 14 step_ctx_checker_own_14 (by kernel_rfl) (fun R K => fun st => mAl 1000000 [.der] (st 0) (mP 36 Ty21 .s (st 3) fun y3 => mV (.sl 58 (.pair (.int .i64) (.pair .bool (.pair (.int .i64) .unit)))) .s (st 72) fun y72 => mV (.int .i64) .s (st 73) fun y73 => mV (.int .i64) .s (st 74) fun y74 => mP 0 (.pair (.pair Ty8 Ty28) (.pair (.int .i64) .unit)) (.o (.p (.p (.o (.p (.o .s) (.p (.o .s) .s))) (.p (.o .s) (.p (.o .s) (.p (.o .s) (.p (.o .s) .s))))) .s)) (st 1000000) fun y1000000 => loopN (B_ctx_checker_own_14 (fun e3 e1000000 => K (.exit 4) (St.ofList [(0, (.al 1000000 [.der])), (3, (.v (.ptr 36 Ty21) .s (some e3))), (1000000, (.v (.ptr 0 (.pair (.pair Ty8 Ty28) (.pair (.int .i64) .unit))) (.o (.p (.p (.o (.p (.o .s) (.p (.o .s) .s))) (.p (.o .s) (.p (.o .s) (.p (.o .s) (.p (.o .s) .s))))) .s)) (some e1000000)))]))) (fuel_ctx_checker_own_14 ⟨y3, y72, y73, y74, y1000000⟩) ⟨y3, y72, y73, y74, y1000000⟩)) (fun R st K => by kernel_rfl) ?_
  intro R K st r h
  obtain ⟨hy0, h⟩ := mAl_inv h
  obtain ⟨y3, hy3, h⟩ := mP_inv h
  obtain ⟨y72, hy72, h⟩ := mV_inv h
  obtain ⟨y73, hy73, h⟩ := mV_inv h
  obtain ⟨y74, hy74, h⟩ := mV_inv h
  obtain ⟨y1000000, hy1000000, h⟩ := mP_inv h
  exact ⟨⟨y3, y72, y73, y74, y1000000⟩, only_of_list (ofList_cons hy0 (ofList_cons hy3 (ofList_cons hy72 (ofList_cons hy73 (ofList_cons hy74 (ofList_cons hy1000000 rfl)))))), h⟩
theorem jstep_ctx_checker_own_25 (R : Type) (K : Ex → St → Option R) (x : Y_ctx_checker_own_25) : evC env_ctx_checker_own lp_ctx_checker_own inl0 j_ctx_checker_own_25 (Q_ctx_checker_own_25 x) (fun e st => coerce (jut_ctx_checker_own_25 e) st (K e)) = J_ctx_checker_own_25  x := by kernel_rfl
theorem jok_ctx_checker_own_25 : JoinOk env_ctx_checker_own lp_ctx_checker_own inl0 j_ctx_checker_own_25 25 := by
  refine joinOk_of (hd := [(0, false), (11, false), (117, false), (118, false), (119, false), (1000000, false)]) (out := jut_ctx_checker_own_25) (S := Q_ctx_checker_own_25) (fun _ K => J_ctx_checker_own_25 ) 25 jstep_ctx_checker_own_25 (fun R K => fun st => mAl 1000000 [.der] (st 0) (mP 66 (.pair (.int .i64) Ty13) .s (st 11) fun y11 => mV (.sl 66 (.pair (.int .i64) Ty13)) .s (st 117) fun y117 => mV (.int .i64) .s (st 118) fun y118 => mV (.int .i64) .s (st 119) fun y119 => mP 0 (.pair (.pair Ty8 Ty28) (.pair (.int .i64) .unit)) (.o (.p (.p (.o (.p (.o .s) (.p (.o .s) .s))) (.p (.o .s) (.p (.o .s) (.p (.o .s) (.p (.o .s) .s))))) .s)) (st 1000000) fun y1000000 => J_ctx_checker_own_25  ⟨y11, y117, y118, y119, y1000000⟩)) (fun R st K => by kernel_rfl) ?_
  intro R K st r h
  obtain ⟨hy0, h⟩ := mAl_inv h
  obtain ⟨y11, hy11, h⟩ := mP_inv h
  obtain ⟨y117, hy117, h⟩ := mV_inv h
  obtain ⟨y118, hy118, h⟩ := mV_inv h
  obtain ⟨y119, hy119, h⟩ := mV_inv h
  obtain ⟨y1000000, hy1000000, h⟩ := mP_inv h
  exact ⟨⟨y11, y117, y118, y119, y1000000⟩, only_of_list (ofList_cons hy0 (ofList_cons hy11 (ofList_cons hy117 (ofList_cons hy118 (ofList_cons hy119 (ofList_cons hy1000000 rfl)))))), h⟩
theorem jstep_ctx_checker_own_26 (R : Type) (K : Ex → St → Option R) (x : Y_ctx_checker_own_26) : evC env_ctx_checker_own lp_ctx_checker_own inl0 j_ctx_checker_own_26 (Q_ctx_checker_own_26 x) (fun e st => coerce (jut_ctx_checker_own_26 e) st (K e)) = J_ctx_checker_own_26  x := by kernel_rfl
theorem jok_ctx_checker_own_26 : JoinOk env_ctx_checker_own lp_ctx_checker_own inl0 j_ctx_checker_own_26 26 := by
  refine joinOk_of (hd := [(0, false), (117, false), (118, false), (119, false), (1000000, false)]) (out := jut_ctx_checker_own_26) (S := Q_ctx_checker_own_26) (fun _ K => J_ctx_checker_own_26 ) 26 jstep_ctx_checker_own_26 (fun R K => fun st => mAl 1000000 [.der] (st 0) (mV (.sl 66 (.pair (.int .i64) Ty13)) .s (st 117) fun y117 => mV (.int .i64) .s (st 118) fun y118 => mV (.int .i64) .s (st 119) fun y119 => mP 0 (.pair (.pair Ty8 Ty28) (.pair (.int .i64) .unit)) (.o (.p (.p (.o (.p (.o .s) (.p (.o .s) .s))) (.p (.o .s) (.p (.o .s) (.p (.o .s) (.p (.o .s) .s))))) .s)) (st 1000000) fun y1000000 => J_ctx_checker_own_26  ⟨y117, y118, y119, y1000000⟩)) (fun R st K => by kernel_rfl) ?_
  intro R K st r h
  obtain ⟨hy0, h⟩ := mAl_inv h
  obtain ⟨y117, hy117, h⟩ := mV_inv h
  obtain ⟨y118, hy118, h⟩ := mV_inv h
  obtain ⟨y119, hy119, h⟩ := mV_inv h
  obtain ⟨y1000000, hy1000000, h⟩ := mP_inv h
  exact ⟨⟨y117, y118, y119, y1000000⟩, only_of_list (ofList_cons hy0 (ofList_cons hy117 (ofList_cons hy118 (ofList_cons hy119 (ofList_cons hy1000000 rfl))))), h⟩
theorem step_ctx_checker_own_22 (R : Type) (K : Ex → St → Option R) (rec : St → Option R) (x : X_ctx_checker_own_22) : evC env_ctx_checker_own lp_ctx_checker_own inl0 c_ctx_checker_own_22 (S_ctx_checker_own_22 x) (fun e st => match e with | .normal => coerce [(0, false), (117, false), (118, false), (119, false), (1000000, false)] st rec | e => coerce (out_ctx_checker_own_22 e) st (K e)) = B_ctx_checker_own_22 (fun e1000000 => K (.exit 6) (St.ofList [(1000000, (.v (.ptr 0 (.pair (.pair Ty8 Ty28) (.pair (.int .i64) .unit))) (.o (.p (.p (.o (.p (.o .s) (.p (.o .s) .s))) (.p (.o .s) (.p (.o .s) (.p (.o .s) (.p (.o .s) .s))))) .s)) (some e1000000)))])) (fun x => rec (S_ctx_checker_own_22 x)) x := by kernel_rfl
theorem ok_ctx_checker_own_22 : LoopOk env_ctx_checker_own lp_ctx_checker_own inl0 c_ctx_checker_own_22 := by
  refine loopOk_of (hd := [(0, false), (117, false), (118, false), (119, false), (1000000, false)]) (out := out_ctx_checker_own_22) (S := S_ctx_checker_own_22) (fun _ K => B_ctx_checker_own_22 (fun e1000000 => K (.exit 6) (St.ofList [(1000000, (.v (.ptr 0 (.pair (.pair Ty8 Ty28) (.pair (.int .i64) .unit))) (.o (.p (.p (.o (.p (.o .s) (.p (.o .s) .s))) (.p (.o .s) (.p (.o .s) (.p (.o .s) (.p (.o .s) .s))))) .s)) (some e1000000)))]))) fuel_ctx_checker_own_22 22 step_ctx_checker_own_22 (by kernel_rfl) (fun R K => fun st => mAl 1000000 [.der] (st 0) (mV (.sl 66 (.pair (.int .i64) Ty13)) .s (st 117) fun y117 => mV (.int .i64) .s (st 118) fun y118 => mV (.int .i64) .s (st 119) fun y119 => mP 0 (.pair (.pair Ty8 Ty28) (.pair (.int .i64) .unit)) (.o (.p (.p (.o (.p (.o .s) (.p (.o .s) .s))) (.p (.o .s) (.p (.o .s) (.p (.o .s) (.p (.o .s) .s))))) .s)) (st 1000000) fun y1000000 => loopN (B_ctx_checker_own_22 (fun e1000000 => K (.exit 6) (St.ofList [(1000000, (.v (.ptr 0 (.pair (.pair Ty8 Ty28) (.pair (.int .i64) .unit))) (.o (.p (.p (.o (.p (.o .s) (.p (.o .s) .s))) (.p (.o .s) (.p (.o .s) (.p (.o .s) (.p (.o .s) .s))))) .s)) (some e1000000)))]))) (fuel_ctx_checker_own_22 ⟨y117, y118, y119, y1000000⟩) ⟨y117, y118, y119, y1000000⟩)) (fun R st K => by kernel_rfl) ?_
  intro R K st r h
  obtain ⟨hy0, h⟩ := mAl_inv h
  obtain ⟨y117, hy117, h⟩ := mV_inv h
  obtain ⟨y118, hy118, h⟩ := mV_inv h
  obtain ⟨y119, hy119, h⟩ := mV_inv h
  obtain ⟨y1000000, hy1000000, h⟩ := mP_inv h
  exact ⟨⟨y117, y118, y119, y1000000⟩, only_of_list (ofList_cons hy0 (ofList_cons hy117 (ofList_cons hy118 (ofList_cons hy119 (ofList_cons hy1000000 rfl))))), h⟩
theorem loops_ctx_checker_own : LoopsOk env_ctx_checker_own lp_ctx_checker_own inl0 (body Tryz.f47.body) := by
  refine loopsOk_of (fun c hc => ?_) (fun c hc => ?_)
  · rw [show loopsL (body Tryz.f47.body) = [c_ctx_checker_own_2, c_ctx_checker_own_8, c_ctx_checker_own_14, c_ctx_checker_own_22] by kernel_rfl] at hc
    simp only [List.mem_cons, List.not_mem_nil, or_false] at hc
    rcases hc with rfl | rfl | rfl | rfl
    · exact ok_ctx_checker_own_2
    · exact ok_ctx_checker_own_8
    · exact ok_ctx_checker_own_14
    · exact ok_ctx_checker_own_22
  · rw [show joinsL env_ctx_checker_own (body Tryz.f47.body) = [(j_ctx_checker_own_5, 5), (j_ctx_checker_own_6, 6), (j_ctx_checker_own_11, 11), (j_ctx_checker_own_12, 12), (j_ctx_checker_own_17, 17), (j_ctx_checker_own_18, 18), (j_ctx_checker_own_25, 25), (j_ctx_checker_own_26, 26)] by kernel_rfl] at hc
    simp only [List.mem_cons, List.not_mem_nil, or_false] at hc
    rcases hc with rfl | rfl | rfl | rfl | rfl | rfl | rfl | rfl
    · exact jok_ctx_checker_own_5
    · exact jok_ctx_checker_own_6
    · exact jok_ctx_checker_own_11
    · exact jok_ctx_checker_own_12
    · exact jok_ctx_checker_own_17
    · exact jok_ctx_checker_own_18
    · exact jok_ctx_checker_own_25
    · exact jok_ctx_checker_own_26
noncomputable def p_ctx_checker_own {R : Type} (a0 : It24) (a1 : It7) (K : It24 → Option R) : Option R :=
  let v1 := ((List.length a1.2.2.1 : Nat) : Int)
  loopN (B_ctx_checker_own_2 (fun w2 w3 =>
  let v4 := ((List.length w2.2.2.2.1 : Nat) : Int)
  loopN (B_ctx_checker_own_8 (fun w5 w6 =>
  let v7 := ((List.length w5.2.2.2.2.1 : Nat) : Int)
  loopN (B_ctx_checker_own_14 (fun w8 w9 =>
  let v10 := ((List.length w9.1.2.2.2.1 : Nat) : Int)
  let v11 := decide (v10 ≤ (1 : Int))
  p_ctx_checker_wantm1 w9 v11 (3 : Int) fun b12 =>
  let v13 := ((List.length b12.1.2.2.2.2.1 : Nat) : Int)
  let v14 := decide (v13 ≤ (1 : Int))
  p_ctx_checker_wantm1 b12 v14 (8 : Int) fun b15 =>
  let v16 := ((List.length w8.2.2.2.2.2.1 : Nat) : Int)
  loopN (B_ctx_checker_own_22 (fun w17 =>
  K w17)) (fuel_ctx_checker_own_22 ⟨w8.2.2.2.2.2.1, v16, (0 : Int), b15⟩) ⟨w8.2.2.2.2.2.1, v16, (0 : Int), b15⟩)) (fuel_ctx_checker_own_14 ⟨w5, w5.2.2.2.2.1, v7, (0 : Int), w6⟩) ⟨w5, w5.2.2.2.2.1, v7, (0 : Int), w6⟩)) (fuel_ctx_checker_own_8 ⟨w2, w2.2.2.2.1, v4, (0 : Int), w3⟩) ⟨w2, w2.2.2.2.1, v4, (0 : Int), w3⟩)) (fuel_ctx_checker_own_2 ⟨a1, a1.2.2.1, v1, (0 : Int), a0⟩) ⟨a1, a1.2.2.1, v1, (0 : Int), a0⟩
noncomputable def cs_ctx_checker_own : CSpec := { ins := [(.ref (.pair (.pair Ty8 Ty28) (.pair (.int .i64) .unit)) (.p (.p (.o (.p (.o .s) (.p (.o .s) .s))) (.p (.o .s) (.p (.o .s) (.p (.o .s) (.p (.o .s) .s))))) .s) (.p (.p (.o (.p (.o .s) (.p (.o .s) .s))) (.p (.o .s) (.p (.o .s) (.p (.o .s) (.p (.o .s) .s))))) .s)), (.val Ty21 .s)], outs := [], fn := fun (d : It24 × It7 × Unit) K _ => p_ctx_checker_own d.1 d.2.1 (fun b0 => K ((()) : Unit) ((b0, ()) : It24 × Unit)) }
theorem h_ctx_checker_own : Holds Tryz.prog 47 cs_ctx_checker_own := by
  refine holds_of (env := env_ctx_checker_own) (inl := inl0) (fn := Tryz.f47) (code := body Tryz.f47.body) (rs := []) (lp := lp_ctx_checker_own) mixed ⟨envTyOk.ty, envTyOk.eq⟩ gamOk_ctx_checker_own inl0_ok Tryz.func47 (by kernel_rfl) (by kernel_rfl) (by kernel_rfl) (by kernel_rfl) (by kernel_rfl) loops_ctx_checker_own (by kernel_rfl) ?_
  intro d R K Kp res h
  have : evC env_ctx_checker_own lp_ctx_checker_own inl0 (body Tryz.f47.body) (St.start cs_ctx_checker_own.ins d) (retK env_ctx_checker_own cs_ctx_checker_own.ins cs_ctx_checker_own.outs [] cs_ctx_checker_own.pan K Kp) = cs_ctx_checker_own.fn d K Kp := by kernel_rfl
  rw [this]; exact h
-- f48 (*trammel/ctx.checker).exports (in part: skipped f79)
noncomputable def js_ctx_checker_exports : Nat → Bool
  | 6 => true
  | _ => false
noncomputable def lv_ctx_checker_exports : Nat → Option (List Nat)
  | 0 => some [0, 1, 1000000]
  | 1 => some [0, 1, 4, 1000000]
  | 2 => some [0, 1, 4, 32, 33, 34, 1000000]
  | 3 => some [0, 1, 4, 32, 33, 34, 1000000]
  | 4 => some [0, 1, 4, 5, 6, 32, 33, 34, 1000000]
  | _ => none
noncomputable def om_ctx_checker_exports : TypeId → Md
  | 22 => (.o .s)
  | 25 => (.o (.p (.o .s) (.p (.o .s) .s)))
  | 26 => (.o .s)
  | 27 => (.o (.p .s (.p (.o .s) (.p (.o (.p .s (.p .s (.p .s (.p .s (.p (.o .s) .s)))))) .s))))
  | 28 => (.o .s)
  | 29 => (.o (.p .s (.p .s (.p (.o (.p .s (.p .s (.p .s (.p .s (.p (.o .s) .s)))))) .s))))
  | 30 => (.o .s)
  | 31 => (.o .s)
  | 32 => (.o (.p .s (.p (.o (.p .s (.p .s (.p .s (.p .s (.p (.o .s) .s)))))) (.p (.o .s) .s))))
  | 33 => (.o (.p .s (.p (.o (.p .s (.p .s (.p .s (.p .s (.p (.o .s) .s)))))) (.p (.o .s) .s))))
  | 34 => (.o (.p .s (.p (.o .s) .s)))
  | 35 => (.p (.o (.p (.o .s) (.p (.o .s) .s))) (.p (.o .s) (.p (.o (.p .s (.p (.o .s) (.p (.o (.p .s (.p .s (.p .s (.p .s (.p (.o .s) .s)))))) .s)))) (.p (.o .s) (.p (.o .s) (.p (.o (.p .s (.p .s (.p (.o (.p .s (.p .s (.p .s (.p .s (.p (.o .s) .s)))))) .s)))) (.p (.o .s) (.p (.o .s) (.p (.o (.p .s (.p (.o (.p .s (.p .s (.p .s (.p .s (.p (.o .s) .s)))))) (.p (.o .s) .s)))) (.p (.o .s) (.p (.o (.p .s (.p (.o (.p .s (.p .s (.p .s (.p .s (.p (.o .s) .s)))))) (.p (.o .s) .s)))) (.p (.o (.p .s (.p (.o .s) .s))) .s))))))))))))
  | 36 => (.p (.o (.p (.o .s) (.p (.o .s) .s))) (.p (.o .s) (.p (.o (.p .s (.p (.o .s) (.p (.o (.p .s (.p .s (.p .s (.p .s (.p (.o .s) .s)))))) .s)))) (.p (.o .s) (.p (.o .s) (.p (.o (.p .s (.p .s (.p (.o (.p .s (.p .s (.p .s (.p .s (.p (.o .s) .s)))))) .s)))) (.p (.o .s) (.p (.o .s) (.p (.o (.p .s (.p (.o (.p .s (.p .s (.p .s (.p .s (.p (.o .s) .s)))))) (.p (.o .s) .s)))) (.p (.o .s) (.p (.o (.p .s (.p (.o (.p .s (.p .s (.p .s (.p .s (.p (.o .s) .s)))))) (.p (.o .s) .s)))) (.p (.o (.p .s (.p (.o .s) .s))) .s))))))))))))
  | 37 => (.o .s)
  | 38 => (.p (.o (.p (.o .s) (.p (.o .s) .s))) (.p (.o .s) (.p (.o .s) (.p (.o .s) (.p (.o .s) .s)))))
  | 39 => (.p (.o (.p (.o .s) (.p (.o .s) .s))) (.p (.o .s) (.p (.o .s) (.p (.o .s) (.p (.o .s) .s)))))
  | 54 => (.p (.o .s) (.p (.o .s) .s))
  | 55 => (.p (.o .s) (.p (.o .s) .s))
  | 61 => (.o (.p .s (.p .s (.p .s (.p .s (.p (.o .s) .s))))))
  | 62 => (.p .s (.p (.o .s) (.p (.o (.p .s (.p .s (.p .s (.p .s (.p (.o .s) .s)))))) .s)))
  | 63 => (.p .s (.p (.o .s) (.p (.o (.p .s (.p .s (.p .s (.p .s (.p (.o .s) .s)))))) .s)))
  | 65 => (.p .s (.p .s (.p (.o (.p .s (.p .s (.p .s (.p .s (.p (.o .s) .s)))))) .s)))
  | 66 => (.p .s (.p .s (.p (.o (.p .s (.p .s (.p .s (.p .s (.p (.o .s) .s)))))) .s)))
  | 69 => (.p .s (.p (.o (.p .s (.p .s (.p .s (.p .s (.p (.o .s) .s)))))) (.p (.o .s) .s)))
  | 70 => (.p .s (.p (.o (.p .s (.p .s (.p .s (.p .s (.p (.o .s) .s)))))) (.p (.o .s) .s)))
  | 71 => (.p .s (.p (.o (.p .s (.p .s (.p .s (.p .s (.p (.o .s) .s)))))) (.p (.o .s) .s)))
  | 72 => (.p .s (.p (.o (.p .s (.p .s (.p .s (.p .s (.p (.o .s) .s)))))) (.p (.o .s) .s)))
  | 73 => (.p .s (.p (.o .s) .s))
  | 74 => (.p .s (.p (.o .s) .s))
  | 93 => (.o (.p .s (.p (.o .s) .s)))
  | 96 => (.p .s (.p (.o .s) .s))
  | 97 => (.p .s (.p (.o .s) .s))
  | 101 => (.p (.o .s) .s)
  | 102 => (.p (.o .s) .s)
  | 106 => (.p (.p (.o (.p (.o .s) (.p (.o .s) .s))) (.p (.o .s) (.p (.o .s) (.p (.o .s) (.p (.o .s) .s))))) .s)
  | 107 => (.p (.p (.o (.p (.o .s) (.p (.o .s) .s))) (.p (.o .s) (.p (.o .s) (.p (.o .s) (.p (.o .s) .s))))) .s)
  | 117 => (.p .s (.p .s (.p .s (.p .s (.p (.o .s) .s)))))
  | 118 => (.p .s (.p .s (.p .s (.p .s (.p (.o .s) .s)))))
  | 154 => (.o (.p .s (.p (.o .s) (.p (.o .s) .s))))
  | 155 => (.p (.p (.o (.p (.o .s) (.p (.o .s) .s))) (.p (.o .s) (.p (.o .s) (.p (.o .s) (.p (.o .s) .s))))) (.p (.o .s) (.p (.o .s) (.p (.o (.p .s (.p (.o .s) (.p (.o .s) .s)))) .s))))
  | 156 => (.p (.p (.o (.p (.o .s) (.p (.o .s) .s))) (.p (.o .s) (.p (.o .s) (.p (.o .s) (.p (.o .s) .s))))) (.p (.o .s) (.p (.o .s) (.p (.o (.p .s (.p (.o .s) (.p (.o .s) .s)))) .s))))
  | 177 => (.o .s)
  | 178 => (.p (.o .s) .s)
  | 179 => (.p (.o .s) .s)
  | 183 => (.o (.o .s))
  | 185 => (.p .s (.p (.o .s) (.p (.o .s) .s)))
  | 186 => (.p .s (.p (.o .s) (.p (.o .s) .s)))
  | 212 => (.p (.o .s) .s)
  | 213 => (.p (.o .s) .s)
  | _ => .s
noncomputable def env_ctx_checker_exports : Env := { ty := envTy, eq := envEq, gam := noG, n := Tryz.f48.ntmps, js := js_ctx_checker_exports, lv := lv_ctx_checker_exports, om := om_ctx_checker_exports }
structure Y_ctx_checker_exports_6 where
  f1 : List ((List UInt8) × (Int) × (Int) × Unit)
  f4 : List (Int)
  f32 : List ((List UInt8) × (Int) × (Int) × Unit)
  f33 : Int
  f34 : Int
  f1000000 : It24

noncomputable def J_ctx_checker_exports_6 {R : Type}  (x : Y_ctx_checker_exports_6) : Option R :=
  cond (inB x.f34 (List.length x.f32))
  (let v1 := List.getD x.f32 x.f34.toNat (([] : List UInt8), ((0 : Int), ((0 : Int), ())))
  cond (inR (0 : Int) x.f34 (List.length x.f1))
  (let v2 := rng x.f1 (0 : Int) x.f34
  none) none) none
noncomputable def Q_ctx_checker_exports_6 (x : Y_ctx_checker_exports_6) : St := St.ofList [(0, (.al 1000000 [.der])), (1, (.v (.sl 68 (.pair .str (.pair (.int .i64) (.pair (.int .i64) .unit)))) .s x.f1)), (4, (.v (.sl 3 (.int .i64)) (.o .s) x.f4)), (32, (.v (.sl 68 (.pair .str (.pair (.int .i64) (.pair (.int .i64) .unit)))) .s x.f32)), (33, (.v (.int .i64) .s x.f33)), (34, (.v (.int .i64) .s x.f34)), (1000000, (.v (.ptr 0 (.pair (.pair Ty8 Ty28) (.pair (.int .i64) .unit))) (.o .s) (some x.f1000000)))]
def jut_ctx_checker_exports_6 : Ex → List (Nat × Bool) | _ => []
noncomputable def j_ctx_checker_exports_6 : Code := match joinC 6 (body Tryz.f48.body) with | some c => c | none => .skip
structure X_ctx_checker_exports_2 where
  f1 : List ((List UInt8) × (Int) × (Int) × Unit)
  f4 : List (Int)
  f32 : List ((List UInt8) × (Int) × (Int) × Unit)
  f33 : Int
  f34 : Int
  f1000000 : It24

noncomputable def B_ctx_checker_exports_2 {R : Type} (k_exit_0 : It24 → Option R) (rec : X_ctx_checker_exports_2 → Option R) (x : X_ctx_checker_exports_2) : Option R :=
  let v1 := decide (x.f34 < x.f33)
  cond v1
  (J_ctx_checker_exports_6 ⟨x.f1, x.f4, x.f32, x.f33, x.f34, x.f1000000⟩)
  (k_exit_0 x.f1000000)
noncomputable def S_ctx_checker_exports_2 (x : X_ctx_checker_exports_2) : St := St.ofList [(0, (.al 1000000 [.der])), (1, (.v (.sl 68 (.pair .str (.pair (.int .i64) (.pair (.int .i64) .unit)))) .s x.f1)), (4, (.v (.sl 3 (.int .i64)) (.o .s) x.f4)), (32, (.v (.sl 68 (.pair .str (.pair (.int .i64) (.pair (.int .i64) .unit)))) .s x.f32)), (33, (.v (.int .i64) .s x.f33)), (34, (.v (.int .i64) .s x.f34)), (1000000, (.v (.ptr 0 (.pair (.pair Ty8 Ty28) (.pair (.int .i64) .unit))) (.o .s) (some x.f1000000)))]
def out_ctx_checker_exports_2 : Ex → List (Nat × Bool) | .exit 0 => [(1000000, false)] | _ => []
noncomputable def fuel_ctx_checker_exports_2 (x : X_ctx_checker_exports_2) : Nat := fuel64
noncomputable def c_ctx_checker_exports_2 : Code := match loopAt 2 (body Tryz.f48.body) with | some c => c | none => .skip
noncomputable def lp_ctx_checker_exports : Loops := fun z i R st K => match z, i with
  | false, 2 => coerce [(0, false), (1, false), (4, false), (32, false), (33, false), (34, false), (1000000, false)] st (fun st => mAl 1000000 [.der] (st 0) (mV (.sl 68 (.pair .str (.pair (.int .i64) (.pair (.int .i64) .unit)))) .s (st 1) fun y1 => mV (.sl 3 (.int .i64)) (.o .s) (st 4) fun y4 => mV (.sl 68 (.pair .str (.pair (.int .i64) (.pair (.int .i64) .unit)))) .s (st 32) fun y32 => mV (.int .i64) .s (st 33) fun y33 => mV (.int .i64) .s (st 34) fun y34 => mP 0 (.pair (.pair Ty8 Ty28) (.pair (.int .i64) .unit)) (.o .s) (st 1000000) fun y1000000 => loopN (B_ctx_checker_exports_2 (fun e1000000 => K (.exit 0) (St.ofList [(1000000, (.v (.ptr 0 (.pair (.pair Ty8 Ty28) (.pair (.int .i64) .unit))) (.o .s) (some e1000000)))]))) (fuel_ctx_checker_exports_2 ⟨y1, y4, y32, y33, y34, y1000000⟩) ⟨y1, y4, y32, y33, y34, y1000000⟩))
  | true, 6 => coerce [(0, false), (1, false), (4, false), (32, false), (33, false), (34, false), (1000000, false)] st (fun st => mAl 1000000 [.der] (st 0) (mV (.sl 68 (.pair .str (.pair (.int .i64) (.pair (.int .i64) .unit)))) .s (st 1) fun y1 => mV (.sl 3 (.int .i64)) (.o .s) (st 4) fun y4 => mV (.sl 68 (.pair .str (.pair (.int .i64) (.pair (.int .i64) .unit)))) .s (st 32) fun y32 => mV (.int .i64) .s (st 33) fun y33 => mV (.int .i64) .s (st 34) fun y34 => mP 0 (.pair (.pair Ty8 Ty28) (.pair (.int .i64) .unit)) (.o .s) (st 1000000) fun y1000000 => J_ctx_checker_exports_6  ⟨y1, y4, y32, y33, y34, y1000000⟩))
  | _, _ => none
theorem jstep_ctx_checker_exports_6 (R : Type) (K : Ex → St → Option R) (x : Y_ctx_checker_exports_6) : evC env_ctx_checker_exports lp_ctx_checker_exports inl0 j_ctx_checker_exports_6 (Q_ctx_checker_exports_6 x) (fun e st => coerce (jut_ctx_checker_exports_6 e) st (K e)) = J_ctx_checker_exports_6  x := by kernel_rfl
theorem jok_ctx_checker_exports_6 : JoinOk env_ctx_checker_exports lp_ctx_checker_exports inl0 j_ctx_checker_exports_6 6 := by
  refine joinOk_of (hd := [(0, false), (1, false), (4, false), (32, false), (33, false), (34, false), (1000000, false)]) (out := jut_ctx_checker_exports_6) (S := Q_ctx_checker_exports_6) (fun _ K => J_ctx_checker_exports_6 ) 6 jstep_ctx_checker_exports_6 (fun R K => fun st => mAl 1000000 [.der] (st 0) (mV (.sl 68 (.pair .str (.pair (.int .i64) (.pair (.int .i64) .unit)))) .s (st 1) fun y1 => mV (.sl 3 (.int .i64)) (.o .s) (st 4) fun y4 => mV (.sl 68 (.pair .str (.pair (.int .i64) (.pair (.int .i64) .unit)))) .s (st 32) fun y32 => mV (.int .i64) .s (st 33) fun y33 => mV (.int .i64) .s (st 34) fun y34 => mP 0 (.pair (.pair Ty8 Ty28) (.pair (.int .i64) .unit)) (.o .s) (st 1000000) fun y1000000 => J_ctx_checker_exports_6  ⟨y1, y4, y32, y33, y34, y1000000⟩)) (fun R st K => by kernel_rfl) ?_
  intro R K st r h
  obtain ⟨hy0, h⟩ := mAl_inv h
  obtain ⟨y1, hy1, h⟩ := mV_inv h
  obtain ⟨y4, hy4, h⟩ := mV_inv h
  obtain ⟨y32, hy32, h⟩ := mV_inv h
  obtain ⟨y33, hy33, h⟩ := mV_inv h
  obtain ⟨y34, hy34, h⟩ := mV_inv h
  obtain ⟨y1000000, hy1000000, h⟩ := mP_inv h
  exact ⟨⟨y1, y4, y32, y33, y34, y1000000⟩, only_of_list (ofList_cons hy0 (ofList_cons hy1 (ofList_cons hy4 (ofList_cons hy32 (ofList_cons hy33 (ofList_cons hy34 (ofList_cons hy1000000 rfl))))))), h⟩
theorem step_ctx_checker_exports_2 (R : Type) (K : Ex → St → Option R) (rec : St → Option R) (x : X_ctx_checker_exports_2) : evC env_ctx_checker_exports lp_ctx_checker_exports inl0 c_ctx_checker_exports_2 (S_ctx_checker_exports_2 x) (fun e st => match e with | .normal => coerce [(0, false), (1, false), (4, false), (32, false), (33, false), (34, false), (1000000, false)] st rec | e => coerce (out_ctx_checker_exports_2 e) st (K e)) = B_ctx_checker_exports_2 (fun e1000000 => K (.exit 0) (St.ofList [(1000000, (.v (.ptr 0 (.pair (.pair Ty8 Ty28) (.pair (.int .i64) .unit))) (.o .s) (some e1000000)))])) (fun x => rec (S_ctx_checker_exports_2 x)) x := by kernel_rfl
theorem ok_ctx_checker_exports_2 : LoopOk env_ctx_checker_exports lp_ctx_checker_exports inl0 c_ctx_checker_exports_2 := by
  refine loopOk_of (hd := [(0, false), (1, false), (4, false), (32, false), (33, false), (34, false), (1000000, false)]) (out := out_ctx_checker_exports_2) (S := S_ctx_checker_exports_2) (fun _ K => B_ctx_checker_exports_2 (fun e1000000 => K (.exit 0) (St.ofList [(1000000, (.v (.ptr 0 (.pair (.pair Ty8 Ty28) (.pair (.int .i64) .unit))) (.o .s) (some e1000000)))]))) fuel_ctx_checker_exports_2 2 step_ctx_checker_exports_2 (by kernel_rfl) (fun R K => fun st => mAl 1000000 [.der] (st 0) (mV (.sl 68 (.pair .str (.pair (.int .i64) (.pair (.int .i64) .unit)))) .s (st 1) fun y1 => mV (.sl 3 (.int .i64)) (.o .s) (st 4) fun y4 => mV (.sl 68 (.pair .str (.pair (.int .i64) (.pair (.int .i64) .unit)))) .s (st 32) fun y32 => mV (.int .i64) .s (st 33) fun y33 => mV (.int .i64) .s (st 34) fun y34 => mP 0 (.pair (.pair Ty8 Ty28) (.pair (.int .i64) .unit)) (.o .s) (st 1000000) fun y1000000 => loopN (B_ctx_checker_exports_2 (fun e1000000 => K (.exit 0) (St.ofList [(1000000, (.v (.ptr 0 (.pair (.pair Ty8 Ty28) (.pair (.int .i64) .unit))) (.o .s) (some e1000000)))]))) (fuel_ctx_checker_exports_2 ⟨y1, y4, y32, y33, y34, y1000000⟩) ⟨y1, y4, y32, y33, y34, y1000000⟩)) (fun R st K => by kernel_rfl) ?_
  intro R K st r h
  obtain ⟨hy0, h⟩ := mAl_inv h
  obtain ⟨y1, hy1, h⟩ := mV_inv h
  obtain ⟨y4, hy4, h⟩ := mV_inv h
  obtain ⟨y32, hy32, h⟩ := mV_inv h
  obtain ⟨y33, hy33, h⟩ := mV_inv h
  obtain ⟨y34, hy34, h⟩ := mV_inv h
  obtain ⟨y1000000, hy1000000, h⟩ := mP_inv h
  exact ⟨⟨y1, y4, y32, y33, y34, y1000000⟩, only_of_list (ofList_cons hy0 (ofList_cons hy1 (ofList_cons hy4 (ofList_cons hy32 (ofList_cons hy33 (ofList_cons hy34 (ofList_cons hy1000000 rfl))))))), h⟩
theorem loops_ctx_checker_exports : LoopsOk env_ctx_checker_exports lp_ctx_checker_exports inl0 (body Tryz.f48.body) := by
  refine loopsOk_of (fun c hc => ?_) (fun c hc => ?_)
  · rw [show loopsL (body Tryz.f48.body) = [c_ctx_checker_exports_2] by kernel_rfl] at hc
    simp only [List.mem_cons, List.not_mem_nil, or_false] at hc
    rcases hc with rfl
    · exact ok_ctx_checker_exports_2
  · rw [show joinsL env_ctx_checker_exports (body Tryz.f48.body) = [(j_ctx_checker_exports_6, 6)] by kernel_rfl] at hc
    simp only [List.mem_cons, List.not_mem_nil, or_false] at hc
    rcases hc with rfl
    · exact jok_ctx_checker_exports_6
noncomputable def p_ctx_checker_exports {R : Type} (a0 : It24) (a1 : List ((List UInt8) × (Int) × (Int) × Unit)) (K : It24 → Option R) : Option R :=
  both
  (let v1 := ((List.length a0.1.2.1 : Nat) : Int)
  both
  (let v2 := ((List.length a0.1.2.2.2.1 : Nat) : Int)
  both
  (let v3 := ((List.length a0.1.2.2.2.2.1 : Nat) : Int)
  let v4 := ((List.length a0.1.2.2.1 : Nat) : Int)
  let v5 := List.set (List.set (List.set (List.set (List.replicate 4 (0 : Int)) 0 v1) 1 v2) 2 v3) 3 v4
  let v6 := ((List.length a1 : Nat) : Int)
  loopN (B_ctx_checker_exports_2 (fun w7 =>
  K w7)) (fuel_ctx_checker_exports_2 ⟨a1, v5, a1, v6, (0 : Int), a0⟩) ⟨a1, v5, a1, v6, (0 : Int), a0⟩)
  (let v8 := ((List.length a0.1.2.2.1 : Nat) : Int)
  let v9 := ((List.length a0.1.2.2.2.2.1 : Nat) : Int)
  let v10 := List.set (List.set (List.set (List.set (List.replicate 4 (0 : Int)) 0 v1) 1 v2) 2 v9) 3 v8
  let v11 := ((List.length a1 : Nat) : Int)
  loopN (B_ctx_checker_exports_2 (fun w12 =>
  K w12)) (fuel_ctx_checker_exports_2 ⟨a1, v10, a1, v11, (0 : Int), a0⟩) ⟨a1, v10, a1, v11, (0 : Int), a0⟩))
  (both
  (let v13 := ((List.length a0.1.2.2.2.2.1 : Nat) : Int)
  both
  (let v14 := ((List.length a0.1.2.2.2.1 : Nat) : Int)
  let v15 := ((List.length a0.1.2.2.1 : Nat) : Int)
  let v16 := List.set (List.set (List.set (List.set (List.replicate 4 (0 : Int)) 0 v1) 1 v14) 2 v13) 3 v15
  let v17 := ((List.length a1 : Nat) : Int)
  loopN (B_ctx_checker_exports_2 (fun w18 =>
  K w18)) (fuel_ctx_checker_exports_2 ⟨a1, v16, a1, v17, (0 : Int), a0⟩) ⟨a1, v16, a1, v17, (0 : Int), a0⟩)
  (let v19 := ((List.length a0.1.2.2.1 : Nat) : Int)
  let v20 := ((List.length a0.1.2.2.2.1 : Nat) : Int)
  let v21 := List.set (List.set (List.set (List.set (List.replicate 4 (0 : Int)) 0 v1) 1 v20) 2 v13) 3 v19
  let v22 := ((List.length a1 : Nat) : Int)
  loopN (B_ctx_checker_exports_2 (fun w23 =>
  K w23)) (fuel_ctx_checker_exports_2 ⟨a1, v21, a1, v22, (0 : Int), a0⟩) ⟨a1, v21, a1, v22, (0 : Int), a0⟩))
  (let v24 := ((List.length a0.1.2.2.1 : Nat) : Int)
  both
  (let v25 := ((List.length a0.1.2.2.2.1 : Nat) : Int)
  let v26 := ((List.length a0.1.2.2.2.2.1 : Nat) : Int)
  let v27 := List.set (List.set (List.set (List.set (List.replicate 4 (0 : Int)) 0 v1) 1 v25) 2 v26) 3 v24
  let v28 := ((List.length a1 : Nat) : Int)
  loopN (B_ctx_checker_exports_2 (fun w29 =>
  K w29)) (fuel_ctx_checker_exports_2 ⟨a1, v27, a1, v28, (0 : Int), a0⟩) ⟨a1, v27, a1, v28, (0 : Int), a0⟩)
  (let v30 := ((List.length a0.1.2.2.2.2.1 : Nat) : Int)
  let v31 := ((List.length a0.1.2.2.2.1 : Nat) : Int)
  let v32 := List.set (List.set (List.set (List.set (List.replicate 4 (0 : Int)) 0 v1) 1 v31) 2 v30) 3 v24
  let v33 := ((List.length a1 : Nat) : Int)
  loopN (B_ctx_checker_exports_2 (fun w34 =>
  K w34)) (fuel_ctx_checker_exports_2 ⟨a1, v32, a1, v33, (0 : Int), a0⟩) ⟨a1, v32, a1, v33, (0 : Int), a0⟩))))
  (both
  (let v35 := ((List.length a0.1.2.2.2.1 : Nat) : Int)
  both
  (let v36 := ((List.length a0.1.2.1 : Nat) : Int)
  both
  (let v37 := ((List.length a0.1.2.2.2.2.1 : Nat) : Int)
  let v38 := ((List.length a0.1.2.2.1 : Nat) : Int)
  let v39 := List.set (List.set (List.set (List.set (List.replicate 4 (0 : Int)) 0 v36) 1 v35) 2 v37) 3 v38
  let v40 := ((List.length a1 : Nat) : Int)
  loopN (B_ctx_checker_exports_2 (fun w41 =>
  K w41)) (fuel_ctx_checker_exports_2 ⟨a1, v39, a1, v40, (0 : Int), a0⟩) ⟨a1, v39, a1, v40, (0 : Int), a0⟩)
  (let v42 := ((List.length a0.1.2.2.1 : Nat) : Int)
  let v43 := ((List.length a0.1.2.2.2.2.1 : Nat) : Int)
  let v44 := List.set (List.set (List.set (List.set (List.replicate 4 (0 : Int)) 0 v36) 1 v35) 2 v43) 3 v42
  let v45 := ((List.length a1 : Nat) : Int)
  loopN (B_ctx_checker_exports_2 (fun w46 =>
  K w46)) (fuel_ctx_checker_exports_2 ⟨a1, v44, a1, v45, (0 : Int), a0⟩) ⟨a1, v44, a1, v45, (0 : Int), a0⟩))
  (both
  (let v47 := ((List.length a0.1.2.2.2.2.1 : Nat) : Int)
  both
  (let v48 := ((List.length a0.1.2.1 : Nat) : Int)
  let v49 := ((List.length a0.1.2.2.1 : Nat) : Int)
  let v50 := List.set (List.set (List.set (List.set (List.replicate 4 (0 : Int)) 0 v48) 1 v35) 2 v47) 3 v49
  let v51 := ((List.length a1 : Nat) : Int)
  loopN (B_ctx_checker_exports_2 (fun w52 =>
  K w52)) (fuel_ctx_checker_exports_2 ⟨a1, v50, a1, v51, (0 : Int), a0⟩) ⟨a1, v50, a1, v51, (0 : Int), a0⟩)
  (let v53 := ((List.length a0.1.2.2.1 : Nat) : Int)
  let v54 := ((List.length a0.1.2.1 : Nat) : Int)
  let v55 := List.set (List.set (List.set (List.set (List.replicate 4 (0 : Int)) 0 v54) 1 v35) 2 v47) 3 v53
  let v56 := ((List.length a1 : Nat) : Int)
  loopN (B_ctx_checker_exports_2 (fun w57 =>
  K w57)) (fuel_ctx_checker_exports_2 ⟨a1, v55, a1, v56, (0 : Int), a0⟩) ⟨a1, v55, a1, v56, (0 : Int), a0⟩))
  (let v58 := ((List.length a0.1.2.2.1 : Nat) : Int)
  both
  (let v59 := ((List.length a0.1.2.1 : Nat) : Int)
  let v60 := ((List.length a0.1.2.2.2.2.1 : Nat) : Int)
  let v61 := List.set (List.set (List.set (List.set (List.replicate 4 (0 : Int)) 0 v59) 1 v35) 2 v60) 3 v58
  let v62 := ((List.length a1 : Nat) : Int)
  loopN (B_ctx_checker_exports_2 (fun w63 =>
  K w63)) (fuel_ctx_checker_exports_2 ⟨a1, v61, a1, v62, (0 : Int), a0⟩) ⟨a1, v61, a1, v62, (0 : Int), a0⟩)
  (let v64 := ((List.length a0.1.2.2.2.2.1 : Nat) : Int)
  let v65 := ((List.length a0.1.2.1 : Nat) : Int)
  let v66 := List.set (List.set (List.set (List.set (List.replicate 4 (0 : Int)) 0 v65) 1 v35) 2 v64) 3 v58
  let v67 := ((List.length a1 : Nat) : Int)
  loopN (B_ctx_checker_exports_2 (fun w68 =>
  K w68)) (fuel_ctx_checker_exports_2 ⟨a1, v66, a1, v67, (0 : Int), a0⟩) ⟨a1, v66, a1, v67, (0 : Int), a0⟩))))
  (both
  (let v69 := ((List.length a0.1.2.2.2.2.1 : Nat) : Int)
  both
  (let v70 := ((List.length a0.1.2.1 : Nat) : Int)
  both
  (let v71 := ((List.length a0.1.2.2.2.1 : Nat) : Int)
  let v72 := ((List.length a0.1.2.2.1 : Nat) : Int)
  let v73 := List.set (List.set (List.set (List.set (List.replicate 4 (0 : Int)) 0 v70) 1 v71) 2 v69) 3 v72
  let v74 := ((List.length a1 : Nat) : Int)
  loopN (B_ctx_checker_exports_2 (fun w75 =>
  K w75)) (fuel_ctx_checker_exports_2 ⟨a1, v73, a1, v74, (0 : Int), a0⟩) ⟨a1, v73, a1, v74, (0 : Int), a0⟩)
  (let v76 := ((List.length a0.1.2.2.1 : Nat) : Int)
  let v77 := ((List.length a0.1.2.2.2.1 : Nat) : Int)
  let v78 := List.set (List.set (List.set (List.set (List.replicate 4 (0 : Int)) 0 v70) 1 v77) 2 v69) 3 v76
  let v79 := ((List.length a1 : Nat) : Int)
  loopN (B_ctx_checker_exports_2 (fun w80 =>
  K w80)) (fuel_ctx_checker_exports_2 ⟨a1, v78, a1, v79, (0 : Int), a0⟩) ⟨a1, v78, a1, v79, (0 : Int), a0⟩))
  (both
  (let v81 := ((List.length a0.1.2.2.2.1 : Nat) : Int)
  both
  (let v82 := ((List.length a0.1.2.1 : Nat) : Int)
  let v83 := ((List.length a0.1.2.2.1 : Nat) : Int)
  let v84 := List.set (List.set (List.set (List.set (List.replicate 4 (0 : Int)) 0 v82) 1 v81) 2 v69) 3 v83
  let v85 := ((List.length a1 : Nat) : Int)
  loopN (B_ctx_checker_exports_2 (fun w86 =>
  K w86)) (fuel_ctx_checker_exports_2 ⟨a1, v84, a1, v85, (0 : Int), a0⟩) ⟨a1, v84, a1, v85, (0 : Int), a0⟩)
  (let v87 := ((List.length a0.1.2.2.1 : Nat) : Int)
  let v88 := ((List.length a0.1.2.1 : Nat) : Int)
  let v89 := List.set (List.set (List.set (List.set (List.replicate 4 (0 : Int)) 0 v88) 1 v81) 2 v69) 3 v87
  let v90 := ((List.length a1 : Nat) : Int)
  loopN (B_ctx_checker_exports_2 (fun w91 =>
  K w91)) (fuel_ctx_checker_exports_2 ⟨a1, v89, a1, v90, (0 : Int), a0⟩) ⟨a1, v89, a1, v90, (0 : Int), a0⟩))
  (let v92 := ((List.length a0.1.2.2.1 : Nat) : Int)
  both
  (let v93 := ((List.length a0.1.2.1 : Nat) : Int)
  let v94 := ((List.length a0.1.2.2.2.1 : Nat) : Int)
  let v95 := List.set (List.set (List.set (List.set (List.replicate 4 (0 : Int)) 0 v93) 1 v94) 2 v69) 3 v92
  let v96 := ((List.length a1 : Nat) : Int)
  loopN (B_ctx_checker_exports_2 (fun w97 =>
  K w97)) (fuel_ctx_checker_exports_2 ⟨a1, v95, a1, v96, (0 : Int), a0⟩) ⟨a1, v95, a1, v96, (0 : Int), a0⟩)
  (let v98 := ((List.length a0.1.2.2.2.1 : Nat) : Int)
  let v99 := ((List.length a0.1.2.1 : Nat) : Int)
  let v100 := List.set (List.set (List.set (List.set (List.replicate 4 (0 : Int)) 0 v99) 1 v98) 2 v69) 3 v92
  let v101 := ((List.length a1 : Nat) : Int)
  loopN (B_ctx_checker_exports_2 (fun w102 =>
  K w102)) (fuel_ctx_checker_exports_2 ⟨a1, v100, a1, v101, (0 : Int), a0⟩) ⟨a1, v100, a1, v101, (0 : Int), a0⟩))))
  (let v103 := ((List.length a0.1.2.2.1 : Nat) : Int)
  both
  (let v104 := ((List.length a0.1.2.1 : Nat) : Int)
  both
  (let v105 := ((List.length a0.1.2.2.2.1 : Nat) : Int)
  let v106 := ((List.length a0.1.2.2.2.2.1 : Nat) : Int)
  let v107 := List.set (List.set (List.set (List.set (List.replicate 4 (0 : Int)) 0 v104) 1 v105) 2 v106) 3 v103
  let v108 := ((List.length a1 : Nat) : Int)
  loopN (B_ctx_checker_exports_2 (fun w109 =>
  K w109)) (fuel_ctx_checker_exports_2 ⟨a1, v107, a1, v108, (0 : Int), a0⟩) ⟨a1, v107, a1, v108, (0 : Int), a0⟩)
  (let v110 := ((List.length a0.1.2.2.2.2.1 : Nat) : Int)
  let v111 := ((List.length a0.1.2.2.2.1 : Nat) : Int)
  let v112 := List.set (List.set (List.set (List.set (List.replicate 4 (0 : Int)) 0 v104) 1 v111) 2 v110) 3 v103
  let v113 := ((List.length a1 : Nat) : Int)
  loopN (B_ctx_checker_exports_2 (fun w114 =>
  K w114)) (fuel_ctx_checker_exports_2 ⟨a1, v112, a1, v113, (0 : Int), a0⟩) ⟨a1, v112, a1, v113, (0 : Int), a0⟩))
  (both
  (let v115 := ((List.length a0.1.2.2.2.1 : Nat) : Int)
  both
  (let v116 := ((List.length a0.1.2.1 : Nat) : Int)
  let v117 := ((List.length a0.1.2.2.2.2.1 : Nat) : Int)
  let v118 := List.set (List.set (List.set (List.set (List.replicate 4 (0 : Int)) 0 v116) 1 v115) 2 v117) 3 v103
  let v119 := ((List.length a1 : Nat) : Int)
  loopN (B_ctx_checker_exports_2 (fun w120 =>
  K w120)) (fuel_ctx_checker_exports_2 ⟨a1, v118, a1, v119, (0 : Int), a0⟩) ⟨a1, v118, a1, v119, (0 : Int), a0⟩)
  (let v121 := ((List.length a0.1.2.2.2.2.1 : Nat) : Int)
  let v122 := ((List.length a0.1.2.1 : Nat) : Int)
  let v123 := List.set (List.set (List.set (List.set (List.replicate 4 (0 : Int)) 0 v122) 1 v115) 2 v121) 3 v103
  let v124 := ((List.length a1 : Nat) : Int)
  loopN (B_ctx_checker_exports_2 (fun w125 =>
  K w125)) (fuel_ctx_checker_exports_2 ⟨a1, v123, a1, v124, (0 : Int), a0⟩) ⟨a1, v123, a1, v124, (0 : Int), a0⟩))
  (let v126 := ((List.length a0.1.2.2.2.2.1 : Nat) : Int)
  both
  (let v127 := ((List.length a0.1.2.1 : Nat) : Int)
  let v128 := ((List.length a0.1.2.2.2.1 : Nat) : Int)
  let v129 := List.set (List.set (List.set (List.set (List.replicate 4 (0 : Int)) 0 v127) 1 v128) 2 v126) 3 v103
  let v130 := ((List.length a1 : Nat) : Int)
  loopN (B_ctx_checker_exports_2 (fun w131 =>
  K w131)) (fuel_ctx_checker_exports_2 ⟨a1, v129, a1, v130, (0 : Int), a0⟩) ⟨a1, v129, a1, v130, (0 : Int), a0⟩)
  (let v132 := ((List.length a0.1.2.2.2.1 : Nat) : Int)
  let v133 := ((List.length a0.1.2.1 : Nat) : Int)
  let v134 := List.set (List.set (List.set (List.set (List.replicate 4 (0 : Int)) 0 v133) 1 v132) 2 v126) 3 v103
  let v135 := ((List.length a1 : Nat) : Int)
  loopN (B_ctx_checker_exports_2 (fun w136 =>
  K w136)) (fuel_ctx_checker_exports_2 ⟨a1, v134, a1, v135, (0 : Int), a0⟩) ⟨a1, v134, a1, v135, (0 : Int), a0⟩))))))
noncomputable def cs_ctx_checker_exports : CSpec := { ins := [(.ref (.pair (.pair Ty8 Ty28) (.pair (.int .i64) .unit)) .s .s), (.val (.sl 68 (.pair .str (.pair (.int .i64) (.pair (.int .i64) .unit)))) .s)], outs := [], fn := fun (d : It24 × (List ((List UInt8) × (Int) × (Int) × Unit)) × Unit) K _ => p_ctx_checker_exports d.1 d.2.1 (fun b0 => K ((()) : Unit) ((b0, ()) : It24 × Unit)) }
theorem h_ctx_checker_exports : Holds Tryz.prog 48 cs_ctx_checker_exports := by
  refine holds_of (env := env_ctx_checker_exports) (inl := inl0) (fn := Tryz.f48) (code := body Tryz.f48.body) (rs := []) (lp := lp_ctx_checker_exports) mixed ⟨envTyOk.ty, envTyOk.eq⟩ (fun _ _ _ h => by cases h) inl0_ok Tryz.func48 (by kernel_rfl) (by kernel_rfl) (by kernel_rfl) (by kernel_rfl) (by kernel_rfl) loops_ctx_checker_exports (by kernel_rfl) ?_
  intro d R K Kp res h
  have : evC env_ctx_checker_exports lp_ctx_checker_exports inl0 (body Tryz.f48.body) (St.start cs_ctx_checker_exports.ins d) (retK env_ctx_checker_exports cs_ctx_checker_exports.ins cs_ctx_checker_exports.outs [] cs_ctx_checker_exports.pan K Kp) = cs_ctx_checker_exports.fn d K Kp := by kernel_rfl
  rw [this]; exact h
-- f51 (*trammel/ctx.checker).segments (in part: skipped f78 | skipped f81)
noncomputable def gam_ctx_checker_segments : FuncId → List FuncId → Option CSpec
  | 50, [] => some cs_ctx_checker_want
  | _, _ => none
noncomputable def fz_ctx_checker_segments : Nat → Bool
  | 3 => true
  | _ => false
noncomputable def fs_ctx_checker_segments : Nat → Bool
  | 5 => true
  | 7 => true
  | _ => false
noncomputable def lv_ctx_checker_segments : Nat → Option (List Nat)
  | 0 => some [0, 1, 1000000]
  | 1 => some [2, 3, 1000000]
  | 2 => some [2, 3, 9, 10, 11, 1000000]
  | 3 => some [2, 3, 9, 10, 11, 1000000]
  | 4 => some [2, 3, 5, 9, 10, 11, 1000000]
  | 5 => some [2, 3, 5, 9, 10, 11, 1000000]
  | 6 => some [2, 3, 5, 9, 10, 11, 1000000]
  | 7 => some [2, 3, 5, 9, 10, 11, 1000000]
  | 9 => some [2, 3, 1000000]
  | 10 => some [2, 45, 46, 47, 1000000]
  | 11 => some [2, 45, 46, 47, 1000000]
  | 12 => some [2, 7, 45, 46, 47, 1000000]
  | 13 => some [2, 7, 45, 46, 47, 1000000]
  | 14 => some [2, 7, 45, 46, 47, 1000000]
  | 15 => some [2, 45, 46, 47, 1000000]
  | _ => none
noncomputable def om_ctx_checker_segments : TypeId → Md
  | 22 => (.o .s)
  | 25 => (.o (.p (.o .s) (.p (.o .s) .s)))
  | 26 => (.o .s)
  | 27 => (.o (.p .s (.p (.o .s) (.p (.o (.p .s (.p .s (.p .s (.p .s (.p (.o .s) .s)))))) .s))))
  | 28 => (.o .s)
  | 29 => (.o (.p .s (.p .s (.p (.o (.p .s (.p .s (.p .s (.p .s (.p (.o .s) .s)))))) .s))))
  | 30 => (.o .s)
  | 31 => (.o .s)
  | 32 => (.o (.p .s (.p (.o (.p .s (.p .s (.p .s (.p .s (.p (.o .s) .s)))))) (.p (.o .s) .s))))
  | 33 => (.o (.p .s (.p (.o (.p .s (.p .s (.p .s (.p .s (.p (.o .s) .s)))))) (.p (.o .s) .s))))
  | 34 => (.o (.p .s (.p (.o .s) .s)))
  | 35 => (.p (.o (.p (.o .s) (.p (.o .s) .s))) (.p (.o .s) (.p (.o (.p .s (.p (.o .s) (.p (.o (.p .s (.p .s (.p .s (.p .s (.p (.o .s) .s)))))) .s)))) (.p (.o .s) (.p (.o .s) (.p (.o (.p .s (.p .s (.p (.o (.p .s (.p .s (.p .s (.p .s (.p (.o .s) .s)))))) .s)))) (.p (.o .s) (.p (.o .s) (.p (.o (.p .s (.p (.o (.p .s (.p .s (.p .s (.p .s (.p (.o .s) .s)))))) (.p (.o .s) .s)))) (.p (.o .s) (.p (.o (.p .s (.p (.o (.p .s (.p .s (.p .s (.p .s (.p (.o .s) .s)))))) (.p (.o .s) .s)))) (.p (.o (.p .s (.p (.o .s) .s))) .s))))))))))))
  | 36 => (.p (.o (.p (.o .s) (.p (.o .s) .s))) (.p (.o .s) (.p (.o (.p .s (.p (.o .s) (.p (.o (.p .s (.p .s (.p .s (.p .s (.p (.o .s) .s)))))) .s)))) (.p (.o .s) (.p (.o .s) (.p (.o (.p .s (.p .s (.p (.o (.p .s (.p .s (.p .s (.p .s (.p (.o .s) .s)))))) .s)))) (.p (.o .s) (.p (.o .s) (.p (.o (.p .s (.p (.o (.p .s (.p .s (.p .s (.p .s (.p (.o .s) .s)))))) (.p (.o .s) .s)))) (.p (.o .s) (.p (.o (.p .s (.p (.o (.p .s (.p .s (.p .s (.p .s (.p (.o .s) .s)))))) (.p (.o .s) .s)))) (.p (.o (.p .s (.p (.o .s) .s))) .s))))))))))))
  | 37 => (.o .s)
  | 38 => (.p (.o (.p (.o .s) (.p (.o .s) .s))) (.p (.o .s) (.p (.o .s) (.p (.o .s) (.p (.o .s) .s)))))
  | 39 => (.p (.o (.p (.o .s) (.p (.o .s) .s))) (.p (.o .s) (.p (.o .s) (.p (.o .s) (.p (.o .s) .s)))))
  | 54 => (.p (.o .s) (.p (.o .s) .s))
  | 55 => (.p (.o .s) (.p (.o .s) .s))
  | 61 => (.o (.p .s (.p .s (.p .s (.p .s (.p (.o .s) .s))))))
  | 62 => (.p .s (.p (.o .s) (.p (.o (.p .s (.p .s (.p .s (.p .s (.p (.o .s) .s)))))) .s)))
  | 63 => (.p .s (.p (.o .s) (.p (.o (.p .s (.p .s (.p .s (.p .s (.p (.o .s) .s)))))) .s)))
  | 65 => (.p .s (.p .s (.p (.o (.p .s (.p .s (.p .s (.p .s (.p (.o .s) .s)))))) .s)))
  | 66 => (.p .s (.p .s (.p (.o (.p .s (.p .s (.p .s (.p .s (.p (.o .s) .s)))))) .s)))
  | 69 => (.p .s (.p (.o (.p .s (.p .s (.p .s (.p .s (.p (.o .s) .s)))))) (.p (.o .s) .s)))
  | 70 => (.p .s (.p (.o (.p .s (.p .s (.p .s (.p .s (.p (.o .s) .s)))))) (.p (.o .s) .s)))
  | 71 => (.p .s (.p (.o (.p .s (.p .s (.p .s (.p .s (.p (.o .s) .s)))))) (.p (.o .s) .s)))
  | 72 => (.p .s (.p (.o (.p .s (.p .s (.p .s (.p .s (.p (.o .s) .s)))))) (.p (.o .s) .s)))
  | 73 => (.p .s (.p (.o .s) .s))
  | 74 => (.p .s (.p (.o .s) .s))
  | 93 => (.o (.p .s (.p (.o .s) .s)))
  | 96 => (.p .s (.p (.o .s) .s))
  | 97 => (.p .s (.p (.o .s) .s))
  | 101 => (.p (.o .s) .s)
  | 102 => (.p (.o .s) .s)
  | 106 => (.p (.p (.o (.p (.o .s) (.p (.o .s) .s))) (.p (.o .s) (.p (.o .s) (.p (.o .s) (.p (.o .s) .s))))) .s)
  | 107 => (.p (.p (.o (.p (.o .s) (.p (.o .s) .s))) (.p (.o .s) (.p (.o .s) (.p (.o .s) (.p (.o .s) .s))))) .s)
  | 117 => (.p .s (.p .s (.p .s (.p .s (.p (.o .s) .s)))))
  | 118 => (.p .s (.p .s (.p .s (.p .s (.p (.o .s) .s)))))
  | 154 => (.o (.p .s (.p (.o .s) (.p (.o .s) .s))))
  | 155 => (.p (.p (.o (.p (.o .s) (.p (.o .s) .s))) (.p (.o .s) (.p (.o .s) (.p (.o .s) (.p (.o .s) .s))))) (.p (.o .s) (.p (.o .s) (.p (.o (.p .s (.p (.o .s) (.p (.o .s) .s)))) .s))))
  | 156 => (.p (.p (.o (.p (.o .s) (.p (.o .s) .s))) (.p (.o .s) (.p (.o .s) (.p (.o .s) (.p (.o .s) .s))))) (.p (.o .s) (.p (.o .s) (.p (.o (.p .s (.p (.o .s) (.p (.o .s) .s)))) .s))))
  | 177 => (.o .s)
  | 178 => (.p (.o .s) .s)
  | 179 => (.p (.o .s) .s)
  | 183 => (.o (.o .s))
  | 185 => (.p .s (.p (.o .s) (.p (.o .s) .s)))
  | 186 => (.p .s (.p (.o .s) (.p (.o .s) .s)))
  | 212 => (.p (.o .s) .s)
  | 213 => (.p (.o .s) .s)
  | _ => .s
noncomputable def env_ctx_checker_segments : Env := { ty := envTy, eq := envEq, gam := gam_ctx_checker_segments, n := Tryz.f51.ntmps, fz := fz_ctx_checker_segments, fs := fs_ctx_checker_segments, lv := lv_ctx_checker_segments, om := om_ctx_checker_segments, al := [18, 19, 20, 21, 22, 54, 55, 56, 57, 58] }
theorem gamOk_ctx_checker_segments : EnvFn Tryz.prog env_ctx_checker_segments := by
  intro f gs c h
  unfold env_ctx_checker_segments gam_ctx_checker_segments at h
  simp only at h
  split at h <;> first | (cases h; done) | (cases h; exact h_ctx_checker_want)
structure X_ctx_checker_segments_2 where
  f3 : It7
  f9 : List ((Int) × It3)
  f10 : Int
  f11 : Int
  f1000000 : It24

noncomputable def B_ctx_checker_segments_2 {R : Type} (k_exit_0 : It7 → It24 → Option R) (rec : X_ctx_checker_segments_2 → Option R) (x : X_ctx_checker_segments_2) : Option R :=
  let v1 := decide (x.f11 < x.f10)
  cond v1
  (cond (inB x.f11 (List.length x.f9))
  (let v2 := List.getD x.f9 x.f11.toNat ((0 : Int), (([] : List ((Int) × (Int) × (Int) × (Int) × (List (Int)) × Unit)), (([] : List (Int)), ())))
  let v3 := v2.1 == (0 : Int)
  cond v3
  (let v4 := ((List.length x.f1000000.1.2.2.2.1 : Nat) : Int)
  let v5 := decide (v4 > (0 : Int))
  p_ctx_checker_want x.f1000000 v5 (7 : Int) fun b6 =>
  none) none) none)
  (k_exit_0 x.f3 x.f1000000)
noncomputable def S_ctx_checker_segments_2 (x : X_ctx_checker_segments_2) : St := St.ofList [(2, (.bx 1000000 [])), (3, (.v (.ptr 36 Ty21) .s (some x.f3))), (9, (.v (.sl 70 (.pair (.int .i64) Ty14)) .s x.f9)), (10, (.v (.int .i64) .s x.f10)), (11, (.v (.int .i64) .s x.f11)), (1000000, (.v (.ptr 0 (.pair (.pair Ty8 Ty28) (.pair (.int .i64) .unit))) (.o .s) (some x.f1000000)))]
def out_ctx_checker_segments_2 : Ex → List (Nat × Bool) | .exit 0 => [(2, false), (3, false), (1000000, false)] | _ => []
noncomputable def fuel_ctx_checker_segments_2 (x : X_ctx_checker_segments_2) : Nat := fuel64
noncomputable def c_ctx_checker_segments_2 : Code := match loopAt 2 (body Tryz.f51.body) with | some c => c | none => .skip
structure X_ctx_checker_segments_10 where
  f45 : List ((Int) × It3)
  f46 : Int
  f47 : Int
  f1000000 : It24

noncomputable def B_ctx_checker_segments_10 {R : Type} (k_exit_2 : It24 → Option R) (rec : X_ctx_checker_segments_10 → Option R) (x : X_ctx_checker_segments_10) : Option R :=
  let v1 := decide (x.f47 < x.f46)
  cond v1
  (cond (inB x.f47 (List.length x.f45))
  (let v2 := List.getD x.f45 x.f47.toNat ((0 : Int), (([] : List ((Int) × (Int) × (Int) × (Int) × (List (Int)) × Unit)), (([] : List (Int)), ())))
  let v3 := v2.1 == (0 : Int)
  cond v3
  (let v4 := ((List.length x.f1000000.1.2.2.2.2.1 : Nat) : Int)
  let v5 := decide (v4 > (0 : Int))
  p_ctx_checker_want x.f1000000 v5 (7 : Int) fun b6 =>
  none)
  (let v7 := IntKind.i64.wrap (x.f47 + (1 : Int))
  rec ⟨x.f45, x.f46, v7, x.f1000000⟩)) none)
  (k_exit_2 x.f1000000)
noncomputable def S_ctx_checker_segments_10 (x : X_ctx_checker_segments_10) : St := St.ofList [(2, (.bx 1000000 [])), (45, (.v (.sl 72 (.pair (.int .i64) Ty15)) .s x.f45)), (46, (.v (.int .i64) .s x.f46)), (47, (.v (.int .i64) .s x.f47)), (1000000, (.v (.ptr 0 (.pair (.pair Ty8 Ty28) (.pair (.int .i64) .unit))) (.o .s) (some x.f1000000)))]
def out_ctx_checker_segments_10 : Ex → List (Nat × Bool) | .exit 2 => [(1000000, false)] | _ => []
noncomputable def fuel_ctx_checker_segments_10 (x : X_ctx_checker_segments_10) : Nat := fuel64
noncomputable def c_ctx_checker_segments_10 : Code := match loopAt 10 (body Tryz.f51.body) with | some c => c | none => .skip
noncomputable def lp_ctx_checker_segments : Loops := fun z i R st K => match z, i with
  | false, 2 => coerce [(2, false), (3, false), (9, false), (10, false), (11, false), (1000000, false)] st (fun st => mBx 1000000 [] (st 2) (mP 36 Ty21 .s (st 3) fun y3 => mV (.sl 70 (.pair (.int .i64) Ty14)) .s (st 9) fun y9 => mV (.int .i64) .s (st 10) fun y10 => mV (.int .i64) .s (st 11) fun y11 => mP 0 (.pair (.pair Ty8 Ty28) (.pair (.int .i64) .unit)) (.o .s) (st 1000000) fun y1000000 => loopN (B_ctx_checker_segments_2 (fun e3 e1000000 => K (.exit 0) (St.ofList [(2, (.bx 1000000 [])), (3, (.v (.ptr 36 Ty21) .s (some e3))), (1000000, (.v (.ptr 0 (.pair (.pair Ty8 Ty28) (.pair (.int .i64) .unit))) (.o .s) (some e1000000)))]))) (fuel_ctx_checker_segments_2 ⟨y3, y9, y10, y11, y1000000⟩) ⟨y3, y9, y10, y11, y1000000⟩))
  | false, 10 => coerce [(2, false), (45, false), (46, false), (47, false), (1000000, false)] st (fun st => mBx 1000000 [] (st 2) (mV (.sl 72 (.pair (.int .i64) Ty15)) .s (st 45) fun y45 => mV (.int .i64) .s (st 46) fun y46 => mV (.int .i64) .s (st 47) fun y47 => mP 0 (.pair (.pair Ty8 Ty28) (.pair (.int .i64) .unit)) (.o .s) (st 1000000) fun y1000000 => loopN (B_ctx_checker_segments_10 (fun e1000000 => K (.exit 2) (St.ofList [(1000000, (.v (.ptr 0 (.pair (.pair Ty8 Ty28) (.pair (.int .i64) .unit))) (.o .s) (some e1000000)))]))) (fuel_ctx_checker_segments_10 ⟨y45, y46, y47, y1000000⟩) ⟨y45, y46, y47, y1000000⟩))
  | _, _ => none
theorem step_ctx_checker_segments_2 (R : Type) (K : Ex → St → Option R) (rec : St → Option R) (x : X_ctx_checker_segments_2) : evC env_ctx_checker_segments lp_ctx_checker_segments inl0 c_ctx_checker_segments_2 (S_ctx_checker_segments_2 x) (fun e st => match e with | .normal => coerce [(2, false), (3, false), (9, false), (10, false), (11, false), (1000000, false)] st rec | e => coerce (out_ctx_checker_segments_2 e) st (K e)) = B_ctx_checker_segments_2 (fun e3 e1000000 => K (.exit 0) (St.ofList [(2, (.bx 1000000 [])), (3, (.v (.ptr 36 Ty21) .s (some e3))), (1000000, (.v (.ptr 0 (.pair (.pair Ty8 Ty28) (.pair (.int .i64) .unit))) (.o .s) (some e1000000)))])) (fun x => rec (S_ctx_checker_segments_2 x)) x := by kernel_rfl
theorem ok_ctx_checker_segments_2 : LoopOk env_ctx_checker_segments lp_ctx_checker_segments inl0 c_ctx_checker_segments_2 := by
  refine loopOk_of (hd := [(2, false), (3, false), (9, false), (10, false), (11, false), (1000000, false)]) (out := out_ctx_checker_segments_2) (S := S_ctx_checker_segments_2) (fun _ K => B_ctx_checker_segments_2 (fun e3 e1000000 => K (.exit 0) (St.ofList [(2, (.bx 1000000 [])), (3, (.v (.ptr 36 Ty21) .s (some e3))), (1000000, (.v (.ptr 0 (.pair (.pair Ty8 Ty28) (.pair (.int .i64) .unit))) (.o .s) (some e1000000)))]))) fuel_ctx_checker_segments_2 2 step_ctx_checker_segments_2 (by kernel_rfl) (fun R K => fun st => mBx 1000000 [] (st 2) (mP 36 Ty21 .s (st 3) fun y3 => mV (.sl 70 (.pair (.int .i64) Ty14)) .s (st 9) fun y9 => mV (.int .i64) .s (st 10) fun y10 => mV (.int .i64) .s (st 11) fun y11 => mP 0 (.pair (.pair Ty8 Ty28) (.pair (.int .i64) .unit)) (.o .s) (st 1000000) fun y1000000 => loopN (B_ctx_checker_segments_2 (fun e3 e1000000 => K (.exit 0) (St.ofList [(2, (.bx 1000000 [])), (3, (.v (.ptr 36 Ty21) .s (some e3))), (1000000, (.v (.ptr 0 (.pair (.pair Ty8 Ty28) (.pair (.int .i64) .unit))) (.o .s) (some e1000000)))]))) (fuel_ctx_checker_segments_2 ⟨y3, y9, y10, y11, y1000000⟩) ⟨y3, y9, y10, y11, y1000000⟩)) (fun R st K => by kernel_rfl) ?_
  intro R K st r h
  obtain ⟨hy2, h⟩ := mBx_inv h
  obtain ⟨y3, hy3, h⟩ := mP_inv h
  obtain ⟨y9, hy9, h⟩ := mV_inv h
  obtain ⟨y10, hy10, h⟩ := mV_inv h
  obtain ⟨y11, hy11, h⟩ := mV_inv h
  obtain ⟨y1000000, hy1000000, h⟩ := mP_inv h
  exact ⟨⟨y3, y9, y10, y11, y1000000⟩, only_of_list (ofList_cons hy2 (ofList_cons hy3 (ofList_cons hy9 (ofList_cons hy10 (ofList_cons hy11 (ofList_cons hy1000000 rfl)))))), h⟩
theorem step_ctx_checker_segments_10 (R : Type) (K : Ex → St → Option R) (rec : St → Option R) (x : X_ctx_checker_segments_10) : evC env_ctx_checker_segments lp_ctx_checker_segments inl0 c_ctx_checker_segments_10 (S_ctx_checker_segments_10 x) (fun e st => match e with | .normal => coerce [(2, false), (45, false), (46, false), (47, false), (1000000, false)] st rec | e => coerce (out_ctx_checker_segments_10 e) st (K e)) = B_ctx_checker_segments_10 (fun e1000000 => K (.exit 2) (St.ofList [(1000000, (.v (.ptr 0 (.pair (.pair Ty8 Ty28) (.pair (.int .i64) .unit))) (.o .s) (some e1000000)))])) (fun x => rec (S_ctx_checker_segments_10 x)) x := by kernel_rfl
theorem ok_ctx_checker_segments_10 : LoopOk env_ctx_checker_segments lp_ctx_checker_segments inl0 c_ctx_checker_segments_10 := by
  refine loopOk_of (hd := [(2, false), (45, false), (46, false), (47, false), (1000000, false)]) (out := out_ctx_checker_segments_10) (S := S_ctx_checker_segments_10) (fun _ K => B_ctx_checker_segments_10 (fun e1000000 => K (.exit 2) (St.ofList [(1000000, (.v (.ptr 0 (.pair (.pair Ty8 Ty28) (.pair (.int .i64) .unit))) (.o .s) (some e1000000)))]))) fuel_ctx_checker_segments_10 10 step_ctx_checker_segments_10 (by kernel_rfl) (fun R K => fun st => mBx 1000000 [] (st 2) (mV (.sl 72 (.pair (.int .i64) Ty15)) .s (st 45) fun y45 => mV (.int .i64) .s (st 46) fun y46 => mV (.int .i64) .s (st 47) fun y47 => mP 0 (.pair (.pair Ty8 Ty28) (.pair (.int .i64) .unit)) (.o .s) (st 1000000) fun y1000000 => loopN (B_ctx_checker_segments_10 (fun e1000000 => K (.exit 2) (St.ofList [(1000000, (.v (.ptr 0 (.pair (.pair Ty8 Ty28) (.pair (.int .i64) .unit))) (.o .s) (some e1000000)))]))) (fuel_ctx_checker_segments_10 ⟨y45, y46, y47, y1000000⟩) ⟨y45, y46, y47, y1000000⟩)) (fun R st K => by kernel_rfl) ?_
  intro R K st r h
  obtain ⟨hy2, h⟩ := mBx_inv h
  obtain ⟨y45, hy45, h⟩ := mV_inv h
  obtain ⟨y46, hy46, h⟩ := mV_inv h
  obtain ⟨y47, hy47, h⟩ := mV_inv h
  obtain ⟨y1000000, hy1000000, h⟩ := mP_inv h
  exact ⟨⟨y45, y46, y47, y1000000⟩, only_of_list (ofList_cons hy2 (ofList_cons hy45 (ofList_cons hy46 (ofList_cons hy47 (ofList_cons hy1000000 rfl))))), h⟩
theorem loops_ctx_checker_segments : LoopsOk env_ctx_checker_segments lp_ctx_checker_segments inl0 (body Tryz.f51.body) := by
  refine loopsOk_of (fun c hc => ?_) (fun c hc => ?_)
  · rw [show loopsL (body Tryz.f51.body) = [c_ctx_checker_segments_2, c_ctx_checker_segments_10] by kernel_rfl] at hc
    simp only [List.mem_cons, List.not_mem_nil, or_false] at hc
    rcases hc with rfl | rfl
    · exact ok_ctx_checker_segments_2
    · exact ok_ctx_checker_segments_10
  · rw [show joinsL env_ctx_checker_segments (body Tryz.f51.body) = [] by kernel_rfl] at hc; cases hc
noncomputable def p_ctx_checker_segments {R : Type} (a0 : It24) (a1 : It7) (K : It24 → Option R) : Option R :=
  let v1 := ((List.length a1.2.2.2.2.2.2.2.2.1 : Nat) : Int)
  loopN (B_ctx_checker_segments_2 (fun w2 w3 =>
  let v4 := ((List.length w2.2.2.2.2.2.2.2.2.2.2.1 : Nat) : Int)
  loopN (B_ctx_checker_segments_10 (fun w5 =>
  K w5)) (fuel_ctx_checker_segments_10 ⟨w2.2.2.2.2.2.2.2.2.2.2.1, v4, (0 : Int), w3⟩) ⟨w2.2.2.2.2.2.2.2.2.2.2.1, v4, (0 : Int), w3⟩)) (fuel_ctx_checker_segments_2 ⟨a1, a1.2.2.2.2.2.2.2.2.1, v1, (0 : Int), a0⟩) ⟨a1, a1.2.2.2.2.2.2.2.2.1, v1, (0 : Int), a0⟩
noncomputable def cs_ctx_checker_segments : CSpec := { ins := [(.ref (.pair (.pair Ty8 Ty28) (.pair (.int .i64) .unit)) .s .s), (.val Ty21 .s)], outs := [], fn := fun (d : It24 × It7 × Unit) K _ => p_ctx_checker_segments d.1 d.2.1 (fun b0 => K ((()) : Unit) ((b0, ()) : It24 × Unit)) }
theorem h_ctx_checker_segments : Holds Tryz.prog 51 cs_ctx_checker_segments := by
  refine holds_of (env := env_ctx_checker_segments) (inl := inl0) (fn := Tryz.f51) (code := body Tryz.f51.body) (rs := []) (lp := lp_ctx_checker_segments) mixed ⟨envTyOk.ty, envTyOk.eq⟩ gamOk_ctx_checker_segments inl0_ok Tryz.func51 (by kernel_rfl) (by kernel_rfl) (by kernel_rfl) (by kernel_rfl) (by kernel_rfl) loops_ctx_checker_segments (by kernel_rfl) ?_
  intro d R K Kp res h
  have : evC env_ctx_checker_segments lp_ctx_checker_segments inl0 (body Tryz.f51.body) (St.start cs_ctx_checker_segments.ins d) (retK env_ctx_checker_segments cs_ctx_checker_segments.ins cs_ctx_checker_segments.outs [] cs_ctx_checker_segments.pan K Kp) = cs_ctx_checker_segments.fn d K Kp := by kernel_rfl
  rw [this]; exact h
-- f48 (*trammel/ctx.checker).exports (in part: skipped f79)
noncomputable def js_ctx_checker_exportsm1 : Nat → Bool
  | 6 => true
  | _ => false
noncomputable def lv_ctx_checker_exportsm1 : Nat → Option (List Nat)
  | 0 => some [0, 1, 1000000]
  | 1 => some [0, 1, 4, 1000000]
  | 2 => some [0, 1, 4, 32, 33, 34, 1000000]
  | 3 => some [0, 1, 4, 32, 33, 34, 1000000]
  | 4 => some [0, 1, 4, 5, 6, 32, 33, 34, 1000000]
  | _ => none
noncomputable def om_ctx_checker_exportsm1 : TypeId → Md
  | 22 => (.o .s)
  | 25 => (.o (.p (.o .s) (.p (.o .s) .s)))
  | 26 => (.o .s)
  | 27 => (.o (.p .s (.p (.o .s) (.p (.o (.p .s (.p .s (.p .s (.p .s (.p (.o .s) .s)))))) .s))))
  | 28 => (.o .s)
  | 29 => (.o (.p .s (.p .s (.p (.o (.p .s (.p .s (.p .s (.p .s (.p (.o .s) .s)))))) .s))))
  | 30 => (.o .s)
  | 31 => (.o .s)
  | 32 => (.o (.p .s (.p (.o (.p .s (.p .s (.p .s (.p .s (.p (.o .s) .s)))))) (.p (.o .s) .s))))
  | 33 => (.o (.p .s (.p (.o (.p .s (.p .s (.p .s (.p .s (.p (.o .s) .s)))))) (.p (.o .s) .s))))
  | 34 => (.o (.p .s (.p (.o .s) .s)))
  | 35 => (.p (.o (.p (.o .s) (.p (.o .s) .s))) (.p (.o .s) (.p (.o (.p .s (.p (.o .s) (.p (.o (.p .s (.p .s (.p .s (.p .s (.p (.o .s) .s)))))) .s)))) (.p (.o .s) (.p (.o .s) (.p (.o (.p .s (.p .s (.p (.o (.p .s (.p .s (.p .s (.p .s (.p (.o .s) .s)))))) .s)))) (.p (.o .s) (.p (.o .s) (.p (.o (.p .s (.p (.o (.p .s (.p .s (.p .s (.p .s (.p (.o .s) .s)))))) (.p (.o .s) .s)))) (.p (.o .s) (.p (.o (.p .s (.p (.o (.p .s (.p .s (.p .s (.p .s (.p (.o .s) .s)))))) (.p (.o .s) .s)))) (.p (.o (.p .s (.p (.o .s) .s))) .s))))))))))))
  | 36 => (.p (.o (.p (.o .s) (.p (.o .s) .s))) (.p (.o .s) (.p (.o (.p .s (.p (.o .s) (.p (.o (.p .s (.p .s (.p .s (.p .s (.p (.o .s) .s)))))) .s)))) (.p (.o .s) (.p (.o .s) (.p (.o (.p .s (.p .s (.p (.o (.p .s (.p .s (.p .s (.p .s (.p (.o .s) .s)))))) .s)))) (.p (.o .s) (.p (.o .s) (.p (.o (.p .s (.p (.o (.p .s (.p .s (.p .s (.p .s (.p (.o .s) .s)))))) (.p (.o .s) .s)))) (.p (.o .s) (.p (.o (.p .s (.p (.o (.p .s (.p .s (.p .s (.p .s (.p (.o .s) .s)))))) (.p (.o .s) .s)))) (.p (.o (.p .s (.p (.o .s) .s))) .s))))))))))))
  | 37 => (.o .s)
  | 38 => (.p (.o (.p (.o .s) (.p (.o .s) .s))) (.p (.o .s) (.p (.o .s) (.p (.o .s) (.p (.o .s) .s)))))
  | 39 => (.p (.o (.p (.o .s) (.p (.o .s) .s))) (.p (.o .s) (.p (.o .s) (.p (.o .s) (.p (.o .s) .s)))))
  | 54 => (.p (.o .s) (.p (.o .s) .s))
  | 55 => (.p (.o .s) (.p (.o .s) .s))
  | 61 => (.o (.p .s (.p .s (.p .s (.p .s (.p (.o .s) .s))))))
  | 62 => (.p .s (.p (.o .s) (.p (.o (.p .s (.p .s (.p .s (.p .s (.p (.o .s) .s)))))) .s)))
  | 63 => (.p .s (.p (.o .s) (.p (.o (.p .s (.p .s (.p .s (.p .s (.p (.o .s) .s)))))) .s)))
  | 65 => (.p .s (.p .s (.p (.o (.p .s (.p .s (.p .s (.p .s (.p (.o .s) .s)))))) .s)))
  | 66 => (.p .s (.p .s (.p (.o (.p .s (.p .s (.p .s (.p .s (.p (.o .s) .s)))))) .s)))
  | 69 => (.p .s (.p (.o (.p .s (.p .s (.p .s (.p .s (.p (.o .s) .s)))))) (.p (.o .s) .s)))
  | 70 => (.p .s (.p (.o (.p .s (.p .s (.p .s (.p .s (.p (.o .s) .s)))))) (.p (.o .s) .s)))
  | 71 => (.p .s (.p (.o (.p .s (.p .s (.p .s (.p .s (.p (.o .s) .s)))))) (.p (.o .s) .s)))
  | 72 => (.p .s (.p (.o (.p .s (.p .s (.p .s (.p .s (.p (.o .s) .s)))))) (.p (.o .s) .s)))
  | 73 => (.p .s (.p (.o .s) .s))
  | 74 => (.p .s (.p (.o .s) .s))
  | 93 => (.o (.p .s (.p (.o .s) .s)))
  | 96 => (.p .s (.p (.o .s) .s))
  | 97 => (.p .s (.p (.o .s) .s))
  | 101 => (.p (.o .s) .s)
  | 102 => (.p (.o .s) .s)
  | 106 => (.p (.p (.o (.p (.o .s) (.p (.o .s) .s))) (.p (.o .s) (.p (.o .s) (.p (.o .s) (.p (.o .s) .s))))) .s)
  | 107 => (.p (.p (.o (.p (.o .s) (.p (.o .s) .s))) (.p (.o .s) (.p (.o .s) (.p (.o .s) (.p (.o .s) .s))))) .s)
  | 117 => (.p .s (.p .s (.p .s (.p .s (.p (.o .s) .s)))))
  | 118 => (.p .s (.p .s (.p .s (.p .s (.p (.o .s) .s)))))
  | 154 => (.o (.p .s (.p (.o .s) (.p (.o .s) .s))))
  | 155 => (.p (.p (.o (.p (.o .s) (.p (.o .s) .s))) (.p (.o .s) (.p (.o .s) (.p (.o .s) (.p (.o .s) .s))))) (.p (.o .s) (.p (.o .s) (.p (.o (.p .s (.p (.o .s) (.p (.o .s) .s)))) .s))))
  | 156 => (.p (.p (.o (.p (.o .s) (.p (.o .s) .s))) (.p (.o .s) (.p (.o .s) (.p (.o .s) (.p (.o .s) .s))))) (.p (.o .s) (.p (.o .s) (.p (.o (.p .s (.p (.o .s) (.p (.o .s) .s)))) .s))))
  | 177 => (.o .s)
  | 178 => (.p (.o .s) .s)
  | 179 => (.p (.o .s) .s)
  | 183 => (.o (.o .s))
  | 185 => (.p .s (.p (.o .s) (.p (.o .s) .s)))
  | 186 => (.p .s (.p (.o .s) (.p (.o .s) .s)))
  | 212 => (.p (.o .s) .s)
  | 213 => (.p (.o .s) .s)
  | _ => .s
noncomputable def env_ctx_checker_exportsm1 : Env := { ty := envTy, eq := envEq, gam := noG, n := Tryz.f48.ntmps, js := js_ctx_checker_exportsm1, lv := lv_ctx_checker_exportsm1, om := om_ctx_checker_exportsm1 }
structure Y_ctx_checker_exportsm1_6 where
  f1 : List ((List UInt8) × (Int) × (Int) × Unit)
  f4 : List (Int)
  f32 : List ((List UInt8) × (Int) × (Int) × Unit)
  f33 : Int
  f34 : Int
  f1000000 : It24

noncomputable def J_ctx_checker_exportsm1_6 {R : Type}  (x : Y_ctx_checker_exportsm1_6) : Option R :=
  cond (inB x.f34 (List.length x.f32))
  (let v1 := List.getD x.f32 x.f34.toNat (([] : List UInt8), ((0 : Int), ((0 : Int), ())))
  cond (inR (0 : Int) x.f34 (List.length x.f1))
  (let v2 := rng x.f1 (0 : Int) x.f34
  none) none) none
noncomputable def Q_ctx_checker_exportsm1_6 (x : Y_ctx_checker_exportsm1_6) : St := St.ofList [(0, (.al 1000000 [.der])), (1, (.v (.sl 68 (.pair .str (.pair (.int .i64) (.pair (.int .i64) .unit)))) .s x.f1)), (4, (.v (.sl 3 (.int .i64)) (.o .s) x.f4)), (32, (.v (.sl 68 (.pair .str (.pair (.int .i64) (.pair (.int .i64) .unit)))) .s x.f32)), (33, (.v (.int .i64) .s x.f33)), (34, (.v (.int .i64) .s x.f34)), (1000000, (.v (.ptr 0 (.pair (.pair Ty8 Ty28) (.pair (.int .i64) .unit))) (.o (.p (.p (.o (.p (.o .s) (.p (.o .s) .s))) (.p (.o .s) (.p (.o .s) (.p (.o .s) (.p (.o .s) .s))))) .s)) (some x.f1000000)))]
def jut_ctx_checker_exportsm1_6 : Ex → List (Nat × Bool) | _ => []
noncomputable def j_ctx_checker_exportsm1_6 : Code := match joinC 6 (body Tryz.f48.body) with | some c => c | none => .skip
structure X_ctx_checker_exportsm1_2 where
  f1 : List ((List UInt8) × (Int) × (Int) × Unit)
  f4 : List (Int)
  f32 : List ((List UInt8) × (Int) × (Int) × Unit)
  f33 : Int
  f34 : Int
  f1000000 : It24

noncomputable def B_ctx_checker_exportsm1_2 {R : Type} (k_exit_0 : It24 → Option R) (rec : X_ctx_checker_exportsm1_2 → Option R) (x : X_ctx_checker_exportsm1_2) : Option R :=
  let v1 := decide (x.f34 < x.f33)
  cond v1
  (J_ctx_checker_exportsm1_6 ⟨x.f1, x.f4, x.f32, x.f33, x.f34, x.f1000000⟩)
  (k_exit_0 x.f1000000)
noncomputable def S_ctx_checker_exportsm1_2 (x : X_ctx_checker_exportsm1_2) : St := St.ofList [(0, (.al 1000000 [.der])), (1, (.v (.sl 68 (.pair .str (.pair (.int .i64) (.pair (.int .i64) .unit)))) .s x.f1)), (4, (.v (.sl 3 (.int .i64)) (.o .s) x.f4)), (32, (.v (.sl 68 (.pair .str (.pair (.int .i64) (.pair (.int .i64) .unit)))) .s x.f32)), (33, (.v (.int .i64) .s x.f33)), (34, (.v (.int .i64) .s x.f34)), (1000000, (.v (.ptr 0 (.pair (.pair Ty8 Ty28) (.pair (.int .i64) .unit))) (.o (.p (.p (.o (.p (.o .s) (.p (.o .s) .s))) (.p (.o .s) (.p (.o .s) (.p (.o .s) (.p (.o .s) .s))))) .s)) (some x.f1000000)))]
def out_ctx_checker_exportsm1_2 : Ex → List (Nat × Bool) | .exit 0 => [(1000000, false)] | _ => []
noncomputable def fuel_ctx_checker_exportsm1_2 (x : X_ctx_checker_exportsm1_2) : Nat := fuel64
noncomputable def c_ctx_checker_exportsm1_2 : Code := match loopAt 2 (body Tryz.f48.body) with | some c => c | none => .skip
noncomputable def lp_ctx_checker_exportsm1 : Loops := fun z i R st K => match z, i with
  | false, 2 => coerce [(0, false), (1, false), (4, false), (32, false), (33, false), (34, false), (1000000, false)] st (fun st => mAl 1000000 [.der] (st 0) (mV (.sl 68 (.pair .str (.pair (.int .i64) (.pair (.int .i64) .unit)))) .s (st 1) fun y1 => mV (.sl 3 (.int .i64)) (.o .s) (st 4) fun y4 => mV (.sl 68 (.pair .str (.pair (.int .i64) (.pair (.int .i64) .unit)))) .s (st 32) fun y32 => mV (.int .i64) .s (st 33) fun y33 => mV (.int .i64) .s (st 34) fun y34 => mP 0 (.pair (.pair Ty8 Ty28) (.pair (.int .i64) .unit)) (.o (.p (.p (.o (.p (.o .s) (.p (.o .s) .s))) (.p (.o .s) (.p (.o .s) (.p (.o .s) (.p (.o .s) .s))))) .s)) (st 1000000) fun y1000000 => loopN (B_ctx_checker_exportsm1_2 (fun e1000000 => K (.exit 0) (St.ofList [(1000000, (.v (.ptr 0 (.pair (.pair Ty8 Ty28) (.pair (.int .i64) .unit))) (.o (.p (.p (.o (.p (.o .s) (.p (.o .s) .s))) (.p (.o .s) (.p (.o .s) (.p (.o .s) (.p (.o .s) .s))))) .s)) (some e1000000)))]))) (fuel_ctx_checker_exportsm1_2 ⟨y1, y4, y32, y33, y34, y1000000⟩) ⟨y1, y4, y32, y33, y34, y1000000⟩))
  | true, 6 => coerce [(0, false), (1, false), (4, false), (32, false), (33, false), (34, false), (1000000, false)] st (fun st => mAl 1000000 [.der] (st 0) (mV (.sl 68 (.pair .str (.pair (.int .i64) (.pair (.int .i64) .unit)))) .s (st 1) fun y1 => mV (.sl 3 (.int .i64)) (.o .s) (st 4) fun y4 => mV (.sl 68 (.pair .str (.pair (.int .i64) (.pair (.int .i64) .unit)))) .s (st 32) fun y32 => mV (.int .i64) .s (st 33) fun y33 => mV (.int .i64) .s (st 34) fun y34 => mP 0 (.pair (.pair Ty8 Ty28) (.pair (.int .i64) .unit)) (.o (.p (.p (.o (.p (.o .s) (.p (.o .s) .s))) (.p (.o .s) (.p (.o .s) (.p (.o .s) (.p (.o .s) .s))))) .s)) (st 1000000) fun y1000000 => J_ctx_checker_exportsm1_6  ⟨y1, y4, y32, y33, y34, y1000000⟩))
  | _, _ => none
theorem jstep_ctx_checker_exportsm1_6 (R : Type) (K : Ex → St → Option R) (x : Y_ctx_checker_exportsm1_6) : evC env_ctx_checker_exportsm1 lp_ctx_checker_exportsm1 inl0 j_ctx_checker_exportsm1_6 (Q_ctx_checker_exportsm1_6 x) (fun e st => coerce (jut_ctx_checker_exportsm1_6 e) st (K e)) = J_ctx_checker_exportsm1_6  x := by kernel_rfl
theorem jok_ctx_checker_exportsm1_6 : JoinOk env_ctx_checker_exportsm1 lp_ctx_checker_exportsm1 inl0 j_ctx_checker_exportsm1_6 6 := by
  refine joinOk_of (hd := [(0, false), (1, false), (4, false), (32, false), (33, false), (34, false), (1000000, false)]) (out := jut_ctx_checker_exportsm1_6) (S := Q_ctx_checker_exportsm1_6) (fun _ K => J_ctx_checker_exportsm1_6 ) 6 jstep_ctx_checker_exportsm1_6 (fun R K => fun st => mAl 1000000 [.der] (st 0) (mV (.sl 68 (.pair .str (.pair (.int .i64) (.pair (.int .i64) .unit)))) .s (st 1) fun y1 => mV (.sl 3 (.int .i64)) (.o .s) (st 4) fun y4 => mV (.sl 68 (.pair .str (.pair (.int .i64) (.pair (.int .i64) .unit)))) .s (st 32) fun y32 => mV (.int .i64) .s (st 33) fun y33 => mV (.int .i64) .s (st 34) fun y34 => mP 0 (.pair (.pair Ty8 Ty28) (.pair (.int .i64) .unit)) (.o (.p (.p (.o (.p (.o .s) (.p (.o .s) .s))) (.p (.o .s) (.p (.o .s) (.p (.o .s) (.p (.o .s) .s))))) .s)) (st 1000000) fun y1000000 => J_ctx_checker_exportsm1_6  ⟨y1, y4, y32, y33, y34, y1000000⟩)) (fun R st K => by kernel_rfl) ?_
  intro R K st r h
  obtain ⟨hy0, h⟩ := mAl_inv h
  obtain ⟨y1, hy1, h⟩ := mV_inv h
  obtain ⟨y4, hy4, h⟩ := mV_inv h
  obtain ⟨y32, hy32, h⟩ := mV_inv h
  obtain ⟨y33, hy33, h⟩ := mV_inv h
  obtain ⟨y34, hy34, h⟩ := mV_inv h
  obtain ⟨y1000000, hy1000000, h⟩ := mP_inv h
  exact ⟨⟨y1, y4, y32, y33, y34, y1000000⟩, only_of_list (ofList_cons hy0 (ofList_cons hy1 (ofList_cons hy4 (ofList_cons hy32 (ofList_cons hy33 (ofList_cons hy34 (ofList_cons hy1000000 rfl))))))), h⟩
theorem step_ctx_checker_exportsm1_2 (R : Type) (K : Ex → St → Option R) (rec : St → Option R) (x : X_ctx_checker_exportsm1_2) : evC env_ctx_checker_exportsm1 lp_ctx_checker_exportsm1 inl0 c_ctx_checker_exportsm1_2 (S_ctx_checker_exportsm1_2 x) (fun e st => match e with | .normal => coerce [(0, false), (1, false), (4, false), (32, false), (33, false), (34, false), (1000000, false)] st rec | e => coerce (out_ctx_checker_exportsm1_2 e) st (K e)) = B_ctx_checker_exportsm1_2 (fun e1000000 => K (.exit 0) (St.ofList [(1000000, (.v (.ptr 0 (.pair (.pair Ty8 Ty28) (.pair (.int .i64) .unit))) (.o (.p (.p (.o (.p (.o .s) (.p (.o .s) .s))) (.p (.o .s) (.p (.o .s) (.p (.o .s) (.p (.o .s) .s))))) .s)) (some e1000000)))])) (fun x => rec (S_ctx_checker_exportsm1_2 x)) x := by kernel_rfl
theorem ok_ctx_checker_exportsm1_2 : LoopOk env_ctx_checker_exportsm1 lp_ctx_checker_exportsm1 inl0 c_ctx_checker_exportsm1_2 := by
  refine loopOk_of (hd := [(0, false), (1, false), (4, false), (32, false), (33, false), (34, false), (1000000, false)]) (out := out_ctx_checker_exportsm1_2) (S := S_ctx_checker_exportsm1_2) (fun _ K => B_ctx_checker_exportsm1_2 (fun e1000000 => K (.exit 0) (St.ofList [(1000000, (.v (.ptr 0 (.pair (.pair Ty8 Ty28) (.pair (.int .i64) .unit))) (.o (.p (.p (.o (.p (.o .s) (.p (.o .s) .s))) (.p (.o .s) (.p (.o .s) (.p (.o .s) (.p (.o .s) .s))))) .s)) (some e1000000)))]))) fuel_ctx_checker_exportsm1_2 2 step_ctx_checker_exportsm1_2 (by kernel_rfl) (fun R K => fun st => mAl 1000000 [.der] (st 0) (mV (.sl 68 (.pair .str (.pair (.int .i64) (.pair (.int .i64) .unit)))) .s (st 1) fun y1 => mV (.sl 3 (.int .i64)) (.o .s) (st 4) fun y4 => mV (.sl 68 (.pair .str (.pair (.int .i64) (.pair (.int .i64) .unit)))) .s (st 32) fun y32 => mV (.int .i64) .s (st 33) fun y33 => mV (.int .i64) .s (st 34) fun y34 => mP 0 (.pair (.pair Ty8 Ty28) (.pair (.int .i64) .unit)) (.o (.p (.p (.o (.p (.o .s) (.p (.o .s) .s))) (.p (.o .s) (.p (.o .s) (.p (.o .s) (.p (.o .s) .s))))) .s)) (st 1000000) fun y1000000 => loopN (B_ctx_checker_exportsm1_2 (fun e1000000 => K (.exit 0) (St.ofList [(1000000, (.v (.ptr 0 (.pair (.pair Ty8 Ty28) (.pair (.int .i64) .unit))) (.o (.p (.p (.o (.p (.o .s) (.p (.o .s) .s))) (.p (.o .s) (.p (.o .s) (.p (.o .s) (.p (.o .s) .s))))) .s)) (some e1000000)))]))) (fuel_ctx_checker_exportsm1_2 ⟨y1, y4, y32, y33, y34, y1000000⟩) ⟨y1, y4, y32, y33, y34, y1000000⟩)) (fun R st K => by kernel_rfl) ?_
  intro R K st r h
  obtain ⟨hy0, h⟩ := mAl_inv h
  obtain ⟨y1, hy1, h⟩ := mV_inv h
  obtain ⟨y4, hy4, h⟩ := mV_inv h
  obtain ⟨y32, hy32, h⟩ := mV_inv h
  obtain ⟨y33, hy33, h⟩ := mV_inv h
  obtain ⟨y34, hy34, h⟩ := mV_inv h
  obtain ⟨y1000000, hy1000000, h⟩ := mP_inv h
  exact ⟨⟨y1, y4, y32, y33, y34, y1000000⟩, only_of_list (ofList_cons hy0 (ofList_cons hy1 (ofList_cons hy4 (ofList_cons hy32 (ofList_cons hy33 (ofList_cons hy34 (ofList_cons hy1000000 rfl))))))), h⟩
theorem loops_ctx_checker_exportsm1 : LoopsOk env_ctx_checker_exportsm1 lp_ctx_checker_exportsm1 inl0 (body Tryz.f48.body) := by
  refine loopsOk_of (fun c hc => ?_) (fun c hc => ?_)
  · rw [show loopsL (body Tryz.f48.body) = [c_ctx_checker_exportsm1_2] by kernel_rfl] at hc
    simp only [List.mem_cons, List.not_mem_nil, or_false] at hc
    rcases hc with rfl
    · exact ok_ctx_checker_exportsm1_2
  · rw [show joinsL env_ctx_checker_exportsm1 (body Tryz.f48.body) = [(j_ctx_checker_exportsm1_6, 6)] by kernel_rfl] at hc
    simp only [List.mem_cons, List.not_mem_nil, or_false] at hc
    rcases hc with rfl
    · exact jok_ctx_checker_exportsm1_6
noncomputable def p_ctx_checker_exportsm1 {R : Type} (a0 : It24) (a1 : List ((List UInt8) × (Int) × (Int) × Unit)) (K : It24 → Option R) : Option R :=
  both
  (let v1 := ((List.length a0.1.2.1 : Nat) : Int)
  both
  (let v2 := ((List.length a0.1.2.2.2.1 : Nat) : Int)
  both
  (let v3 := ((List.length a0.1.2.2.2.2.1 : Nat) : Int)
  let v4 := ((List.length a0.1.2.2.1 : Nat) : Int)
  let v5 := List.set (List.set (List.set (List.set (List.replicate 4 (0 : Int)) 0 v1) 1 v2) 2 v3) 3 v4
  let v6 := ((List.length a1 : Nat) : Int)
  loopN (B_ctx_checker_exportsm1_2 (fun w7 =>
  K w7)) (fuel_ctx_checker_exportsm1_2 ⟨a1, v5, a1, v6, (0 : Int), a0⟩) ⟨a1, v5, a1, v6, (0 : Int), a0⟩)
  (let v8 := ((List.length a0.1.2.2.1 : Nat) : Int)
  let v9 := ((List.length a0.1.2.2.2.2.1 : Nat) : Int)
  let v10 := List.set (List.set (List.set (List.set (List.replicate 4 (0 : Int)) 0 v1) 1 v2) 2 v9) 3 v8
  let v11 := ((List.length a1 : Nat) : Int)
  loopN (B_ctx_checker_exportsm1_2 (fun w12 =>
  K w12)) (fuel_ctx_checker_exportsm1_2 ⟨a1, v10, a1, v11, (0 : Int), a0⟩) ⟨a1, v10, a1, v11, (0 : Int), a0⟩))
  (both
  (let v13 := ((List.length a0.1.2.2.2.2.1 : Nat) : Int)
  both
  (let v14 := ((List.length a0.1.2.2.2.1 : Nat) : Int)
  let v15 := ((List.length a0.1.2.2.1 : Nat) : Int)
  let v16 := List.set (List.set (List.set (List.set (List.replicate 4 (0 : Int)) 0 v1) 1 v14) 2 v13) 3 v15
  let v17 := ((List.length a1 : Nat) : Int)
  loopN (B_ctx_checker_exportsm1_2 (fun w18 =>
  K w18)) (fuel_ctx_checker_exportsm1_2 ⟨a1, v16, a1, v17, (0 : Int), a0⟩) ⟨a1, v16, a1, v17, (0 : Int), a0⟩)
  (let v19 := ((List.length a0.1.2.2.1 : Nat) : Int)
  let v20 := ((List.length a0.1.2.2.2.1 : Nat) : Int)
  let v21 := List.set (List.set (List.set (List.set (List.replicate 4 (0 : Int)) 0 v1) 1 v20) 2 v13) 3 v19
  let v22 := ((List.length a1 : Nat) : Int)
  loopN (B_ctx_checker_exportsm1_2 (fun w23 =>
  K w23)) (fuel_ctx_checker_exportsm1_2 ⟨a1, v21, a1, v22, (0 : Int), a0⟩) ⟨a1, v21, a1, v22, (0 : Int), a0⟩))
  (let v24 := ((List.length a0.1.2.2.1 : Nat) : Int)
  both
  (let v25 := ((List.length a0.1.2.2.2.1 : Nat) : Int)
  let v26 := ((List.length a0.1.2.2.2.2.1 : Nat) : Int)
  let v27 := List.set (List.set (List.set (List.set (List.replicate 4 (0 : Int)) 0 v1) 1 v25) 2 v26) 3 v24
  let v28 := ((List.length a1 : Nat) : Int)
  loopN (B_ctx_checker_exportsm1_2 (fun w29 =>
  K w29)) (fuel_ctx_checker_exportsm1_2 ⟨a1, v27, a1, v28, (0 : Int), a0⟩) ⟨a1, v27, a1, v28, (0 : Int), a0⟩)
  (let v30 := ((List.length a0.1.2.2.2.2.1 : Nat) : Int)
  let v31 := ((List.length a0.1.2.2.2.1 : Nat) : Int)
  let v32 := List.set (List.set (List.set (List.set (List.replicate 4 (0 : Int)) 0 v1) 1 v31) 2 v30) 3 v24
  let v33 := ((List.length a1 : Nat) : Int)
  loopN (B_ctx_checker_exportsm1_2 (fun w34 =>
  K w34)) (fuel_ctx_checker_exportsm1_2 ⟨a1, v32, a1, v33, (0 : Int), a0⟩) ⟨a1, v32, a1, v33, (0 : Int), a0⟩))))
  (both
  (let v35 := ((List.length a0.1.2.2.2.1 : Nat) : Int)
  both
  (let v36 := ((List.length a0.1.2.1 : Nat) : Int)
  both
  (let v37 := ((List.length a0.1.2.2.2.2.1 : Nat) : Int)
  let v38 := ((List.length a0.1.2.2.1 : Nat) : Int)
  let v39 := List.set (List.set (List.set (List.set (List.replicate 4 (0 : Int)) 0 v36) 1 v35) 2 v37) 3 v38
  let v40 := ((List.length a1 : Nat) : Int)
  loopN (B_ctx_checker_exportsm1_2 (fun w41 =>
  K w41)) (fuel_ctx_checker_exportsm1_2 ⟨a1, v39, a1, v40, (0 : Int), a0⟩) ⟨a1, v39, a1, v40, (0 : Int), a0⟩)
  (let v42 := ((List.length a0.1.2.2.1 : Nat) : Int)
  let v43 := ((List.length a0.1.2.2.2.2.1 : Nat) : Int)
  let v44 := List.set (List.set (List.set (List.set (List.replicate 4 (0 : Int)) 0 v36) 1 v35) 2 v43) 3 v42
  let v45 := ((List.length a1 : Nat) : Int)
  loopN (B_ctx_checker_exportsm1_2 (fun w46 =>
  K w46)) (fuel_ctx_checker_exportsm1_2 ⟨a1, v44, a1, v45, (0 : Int), a0⟩) ⟨a1, v44, a1, v45, (0 : Int), a0⟩))
  (both
  (let v47 := ((List.length a0.1.2.2.2.2.1 : Nat) : Int)
  both
  (let v48 := ((List.length a0.1.2.1 : Nat) : Int)
  let v49 := ((List.length a0.1.2.2.1 : Nat) : Int)
  let v50 := List.set (List.set (List.set (List.set (List.replicate 4 (0 : Int)) 0 v48) 1 v35) 2 v47) 3 v49
  let v51 := ((List.length a1 : Nat) : Int)
  loopN (B_ctx_checker_exportsm1_2 (fun w52 =>
  K w52)) (fuel_ctx_checker_exportsm1_2 ⟨a1, v50, a1, v51, (0 : Int), a0⟩) ⟨a1, v50, a1, v51, (0 : Int), a0⟩)
  (let v53 := ((List.length a0.1.2.2.1 : Nat) : Int)
  let v54 := ((List.length a0.1.2.1 : Nat) : Int)
  let v55 := List.set (List.set (List.set (List.set (List.replicate 4 (0 : Int)) 0 v54) 1 v35) 2 v47) 3 v53
  let v56 := ((List.length a1 : Nat) : Int)
  loopN (B_ctx_checker_exportsm1_2 (fun w57 =>
  K w57)) (fuel_ctx_checker_exportsm1_2 ⟨a1, v55, a1, v56, (0 : Int), a0⟩) ⟨a1, v55, a1, v56, (0 : Int), a0⟩))
  (let v58 := ((List.length a0.1.2.2.1 : Nat) : Int)
  both
  (let v59 := ((List.length a0.1.2.1 : Nat) : Int)
  let v60 := ((List.length a0.1.2.2.2.2.1 : Nat) : Int)
  let v61 := List.set (List.set (List.set (List.set (List.replicate 4 (0 : Int)) 0 v59) 1 v35) 2 v60) 3 v58
  let v62 := ((List.length a1 : Nat) : Int)
  loopN (B_ctx_checker_exportsm1_2 (fun w63 =>
  K w63)) (fuel_ctx_checker_exportsm1_2 ⟨a1, v61, a1, v62, (0 : Int), a0⟩) ⟨a1, v61, a1, v62, (0 : Int), a0⟩)
  (let v64 := ((List.length a0.1.2.2.2.2.1 : Nat) : Int)
  let v65 := ((List.length a0.1.2.1 : Nat) : Int)
  let v66 := List.set (List.set (List.set (List.set (List.replicate 4 (0 : Int)) 0 v65) 1 v35) 2 v64) 3 v58
  let v67 := ((List.length a1 : Nat) : Int)
  loopN (B_ctx_checker_exportsm1_2 (fun w68 =>
  K w68)) (fuel_ctx_checker_exportsm1_2 ⟨a1, v66, a1, v67, (0 : Int), a0⟩) ⟨a1, v66, a1, v67, (0 : Int), a0⟩))))
  (both
  (let v69 := ((List.length a0.1.2.2.2.2.1 : Nat) : Int)
  both
  (let v70 := ((List.length a0.1.2.1 : Nat) : Int)
  both
  (let v71 := ((List.length a0.1.2.2.2.1 : Nat) : Int)
  let v72 := ((List.length a0.1.2.2.1 : Nat) : Int)
  let v73 := List.set (List.set (List.set (List.set (List.replicate 4 (0 : Int)) 0 v70) 1 v71) 2 v69) 3 v72
  let v74 := ((List.length a1 : Nat) : Int)
  loopN (B_ctx_checker_exportsm1_2 (fun w75 =>
  K w75)) (fuel_ctx_checker_exportsm1_2 ⟨a1, v73, a1, v74, (0 : Int), a0⟩) ⟨a1, v73, a1, v74, (0 : Int), a0⟩)
  (let v76 := ((List.length a0.1.2.2.1 : Nat) : Int)
  let v77 := ((List.length a0.1.2.2.2.1 : Nat) : Int)
  let v78 := List.set (List.set (List.set (List.set (List.replicate 4 (0 : Int)) 0 v70) 1 v77) 2 v69) 3 v76
  let v79 := ((List.length a1 : Nat) : Int)
  loopN (B_ctx_checker_exportsm1_2 (fun w80 =>
  K w80)) (fuel_ctx_checker_exportsm1_2 ⟨a1, v78, a1, v79, (0 : Int), a0⟩) ⟨a1, v78, a1, v79, (0 : Int), a0⟩))
  (both
  (let v81 := ((List.length a0.1.2.2.2.1 : Nat) : Int)
  both
  (let v82 := ((List.length a0.1.2.1 : Nat) : Int)
  let v83 := ((List.length a0.1.2.2.1 : Nat) : Int)
  let v84 := List.set (List.set (List.set (List.set (List.replicate 4 (0 : Int)) 0 v82) 1 v81) 2 v69) 3 v83
  let v85 := ((List.length a1 : Nat) : Int)
  loopN (B_ctx_checker_exportsm1_2 (fun w86 =>
  K w86)) (fuel_ctx_checker_exportsm1_2 ⟨a1, v84, a1, v85, (0 : Int), a0⟩) ⟨a1, v84, a1, v85, (0 : Int), a0⟩)
  (let v87 := ((List.length a0.1.2.2.1 : Nat) : Int)
  let v88 := ((List.length a0.1.2.1 : Nat) : Int)
  let v89 := List.set (List.set (List.set (List.set (List.replicate 4 (0 : Int)) 0 v88) 1 v81) 2 v69) 3 v87
  let v90 := ((List.length a1 : Nat) : Int)
  loopN (B_ctx_checker_exportsm1_2 (fun w91 =>
  K w91)) (fuel_ctx_checker_exportsm1_2 ⟨a1, v89, a1, v90, (0 : Int), a0⟩) ⟨a1, v89, a1, v90, (0 : Int), a0⟩))
  (let v92 := ((List.length a0.1.2.2.1 : Nat) : Int)
  both
  (let v93 := ((List.length a0.1.2.1 : Nat) : Int)
  let v94 := ((List.length a0.1.2.2.2.1 : Nat) : Int)
  let v95 := List.set (List.set (List.set (List.set (List.replicate 4 (0 : Int)) 0 v93) 1 v94) 2 v69) 3 v92
  let v96 := ((List.length a1 : Nat) : Int)
  loopN (B_ctx_checker_exportsm1_2 (fun w97 =>
  K w97)) (fuel_ctx_checker_exportsm1_2 ⟨a1, v95, a1, v96, (0 : Int), a0⟩) ⟨a1, v95, a1, v96, (0 : Int), a0⟩)
  (let v98 := ((List.length a0.1.2.2.2.1 : Nat) : Int)
  let v99 := ((List.length a0.1.2.1 : Nat) : Int)
  let v100 := List.set (List.set (List.set (List.set (List.replicate 4 (0 : Int)) 0 v99) 1 v98) 2 v69) 3 v92
  let v101 := ((List.length a1 : Nat) : Int)
  loopN (B_ctx_checker_exportsm1_2 (fun w102 =>
  K w102)) (fuel_ctx_checker_exportsm1_2 ⟨a1, v100, a1, v101, (0 : Int), a0⟩) ⟨a1, v100, a1, v101, (0 : Int), a0⟩))))
  (let v103 := ((List.length a0.1.2.2.1 : Nat) : Int)
  both
  (let v104 := ((List.length a0.1.2.1 : Nat) : Int)
  both
  (let v105 := ((List.length a0.1.2.2.2.1 : Nat) : Int)
  let v106 := ((List.length a0.1.2.2.2.2.1 : Nat) : Int)
  let v107 := List.set (List.set (List.set (List.set (List.replicate 4 (0 : Int)) 0 v104) 1 v105) 2 v106) 3 v103
  let v108 := ((List.length a1 : Nat) : Int)
  loopN (B_ctx_checker_exportsm1_2 (fun w109 =>
  K w109)) (fuel_ctx_checker_exportsm1_2 ⟨a1, v107, a1, v108, (0 : Int), a0⟩) ⟨a1, v107, a1, v108, (0 : Int), a0⟩)
  (let v110 := ((List.length a0.1.2.2.2.2.1 : Nat) : Int)
  let v111 := ((List.length a0.1.2.2.2.1 : Nat) : Int)
  let v112 := List.set (List.set (List.set (List.set (List.replicate 4 (0 : Int)) 0 v104) 1 v111) 2 v110) 3 v103
  let v113 := ((List.length a1 : Nat) : Int)
  loopN (B_ctx_checker_exportsm1_2 (fun w114 =>
  K w114)) (fuel_ctx_checker_exportsm1_2 ⟨a1, v112, a1, v113, (0 : Int), a0⟩) ⟨a1, v112, a1, v113, (0 : Int), a0⟩))
  (both
  (let v115 := ((List.length a0.1.2.2.2.1 : Nat) : Int)
  both
  (let v116 := ((List.length a0.1.2.1 : Nat) : Int)
  let v117 := ((List.length a0.1.2.2.2.2.1 : Nat) : Int)
  let v118 := List.set (List.set (List.set (List.set (List.replicate 4 (0 : Int)) 0 v116) 1 v115) 2 v117) 3 v103
  let v119 := ((List.length a1 : Nat) : Int)
  loopN (B_ctx_checker_exportsm1_2 (fun w120 =>
  K w120)) (fuel_ctx_checker_exportsm1_2 ⟨a1, v118, a1, v119, (0 : Int), a0⟩) ⟨a1, v118, a1, v119, (0 : Int), a0⟩)
  (let v121 := ((List.length a0.1.2.2.2.2.1 : Nat) : Int)
  let v122 := ((List.length a0.1.2.1 : Nat) : Int)
  let v123 := List.set (List.set (List.set (List.set (List.replicate 4 (0 : Int)) 0 v122) 1 v115) 2 v121) 3 v103
  let v124 := ((List.length a1 : Nat) : Int)
  loopN (B_ctx_checker_exportsm1_2 (fun w125 =>
  K w125)) (fuel_ctx_checker_exportsm1_2 ⟨a1, v123, a1, v124, (0 : Int), a0⟩) ⟨a1, v123, a1, v124, (0 : Int), a0⟩))
  (let v126 := ((List.length a0.1.2.2.2.2.1 : Nat) : Int)
  both
  (let v127 := ((List.length a0.1.2.1 : Nat) : Int)
  let v128 := ((List.length a0.1.2.2.2.1 : Nat) : Int)
  let v129 := List.set (List.set (List.set (List.set (List.replicate 4 (0 : Int)) 0 v127) 1 v128) 2 v126) 3 v103
  let v130 := ((List.length a1 : Nat) : Int)
  loopN (B_ctx_checker_exportsm1_2 (fun w131 =>
  K w131)) (fuel_ctx_checker_exportsm1_2 ⟨a1, v129, a1, v130, (0 : Int), a0⟩) ⟨a1, v129, a1, v130, (0 : Int), a0⟩)
  (let v132 := ((List.length a0.1.2.2.2.1 : Nat) : Int)
  let v133 := ((List.length a0.1.2.1 : Nat) : Int)
  let v134 := List.set (List.set (List.set (List.set (List.replicate 4 (0 : Int)) 0 v133) 1 v132) 2 v126) 3 v103
  let v135 := ((List.length a1 : Nat) : Int)
  loopN (B_ctx_checker_exportsm1_2 (fun w136 =>
  K w136)) (fuel_ctx_checker_exportsm1_2 ⟨a1, v134, a1, v135, (0 : Int), a0⟩) ⟨a1, v134, a1, v135, (0 : Int), a0⟩))))))
noncomputable def cs_ctx_checker_exportsm1 : CSpec := { ins := [(.ref (.pair (.pair Ty8 Ty28) (.pair (.int .i64) .unit)) (.p (.p (.o (.p (.o .s) (.p (.o .s) .s))) (.p (.o .s) (.p (.o .s) (.p (.o .s) (.p (.o .s) .s))))) .s) (.p (.p (.o (.p (.o .s) (.p (.o .s) .s))) (.p (.o .s) (.p (.o .s) (.p (.o .s) (.p (.o .s) .s))))) .s)), (.val (.sl 68 (.pair .str (.pair (.int .i64) (.pair (.int .i64) .unit)))) .s)], outs := [], fn := fun (d : It24 × (List ((List UInt8) × (Int) × (Int) × Unit)) × Unit) K _ => p_ctx_checker_exportsm1 d.1 d.2.1 (fun b0 => K ((()) : Unit) ((b0, ()) : It24 × Unit)) }
theorem h_ctx_checker_exportsm1 : Holds Tryz.prog 48 cs_ctx_checker_exportsm1 := by
  refine holds_of (env := env_ctx_checker_exportsm1) (inl := inl0) (fn := Tryz.f48) (code := body Tryz.f48.body) (rs := []) (lp := lp_ctx_checker_exportsm1) mixed ⟨envTyOk.ty, envTyOk.eq⟩ (fun _ _ _ h => by cases h) inl0_ok Tryz.func48 (by kernel_rfl) (by kernel_rfl) (by kernel_rfl) (by kernel_rfl) (by kernel_rfl) loops_ctx_checker_exportsm1 (by kernel_rfl) ?_
  intro d R K Kp res h
  have : evC env_ctx_checker_exportsm1 lp_ctx_checker_exportsm1 inl0 (body Tryz.f48.body) (St.start cs_ctx_checker_exportsm1.ins d) (retK env_ctx_checker_exportsm1 cs_ctx_checker_exportsm1.ins cs_ctx_checker_exportsm1.outs [] cs_ctx_checker_exportsm1.pan K Kp) = cs_ctx_checker_exportsm1.fn d K Kp := by kernel_rfl
  rw [this]; exact h
-- f51 (*trammel/ctx.checker).segments (in part: skipped f78 | skipped f81)
noncomputable def gam_ctx_checker_segmentsm1 : FuncId → List FuncId → Option CSpec
  | 50, [] => some cs_ctx_checker_wantm1
  | _, _ => none
noncomputable def fz_ctx_checker_segmentsm1 : Nat → Bool
  | 3 => true
  | _ => false
noncomputable def fs_ctx_checker_segmentsm1 : Nat → Bool
  | 5 => true
  | 7 => true
  | _ => false
noncomputable def lv_ctx_checker_segmentsm1 : Nat → Option (List Nat)
  | 0 => some [0, 1, 1000000]
  | 1 => some [2, 3, 1000000]
  | 2 => some [2, 3, 9, 10, 11, 1000000]
  | 3 => some [2, 3, 9, 10, 11, 1000000]
  | 4 => some [2, 3, 5, 9, 10, 11, 1000000]
  | 5 => some [2, 3, 5, 9, 10, 11, 1000000]
  | 6 => some [2, 3, 5, 9, 10, 11, 1000000]
  | 7 => some [2, 3, 5, 9, 10, 11, 1000000]
  | 9 => some [2, 3, 1000000]
  | 10 => some [2, 45, 46, 47, 1000000]
  | 11 => some [2, 45, 46, 47, 1000000]
  | 12 => some [2, 7, 45, 46, 47, 1000000]
  | 13 => some [2, 7, 45, 46, 47, 1000000]
  | 14 => some [2, 7, 45, 46, 47, 1000000]
  | 15 => some [2, 45, 46, 47, 1000000]
  | _ => none
noncomputable def om_ctx_checker_segmentsm1 : TypeId → Md
  | 22 => (.o .s)
  | 25 => (.o (.p (.o .s) (.p (.o .s) .s)))
  | 26 => (.o .s)
  | 27 => (.o (.p .s (.p (.o .s) (.p (.o (.p .s (.p .s (.p .s (.p .s (.p (.o .s) .s)))))) .s))))
  | 28 => (.o .s)
  | 29 => (.o (.p .s (.p .s (.p (.o (.p .s (.p .s (.p .s (.p .s (.p (.o .s) .s)))))) .s))))
  | 30 => (.o .s)
  | 31 => (.o .s)
  | 32 => (.o (.p .s (.p (.o (.p .s (.p .s (.p .s (.p .s (.p (.o .s) .s)))))) (.p (.o .s) .s))))
  | 33 => (.o (.p .s (.p (.o (.p .s (.p .s (.p .s (.p .s (.p (.o .s) .s)))))) (.p (.o .s) .s))))
  | 34 => (.o (.p .s (.p (.o .s) .s)))
  | 35 => (.p (.o (.p (.o .s) (.p (.o .s) .s))) (.p (.o .s) (.p (.o (.p .s (.p (.o .s) (.p (.o (.p .s (.p .s (.p .s (.p .s (.p (.o .s) .s)))))) .s)))) (.p (.o .s) (.p (.o .s) (.p (.o (.p .s (.p .s (.p (.o (.p .s (.p .s (.p .s (.p .s (.p (.o .s) .s)))))) .s)))) (.p (.o .s) (.p (.o .s) (.p (.o (.p .s (.p (.o (.p .s (.p .s (.p .s (.p .s (.p (.o .s) .s)))))) (.p (.o .s) .s)))) (.p (.o .s) (.p (.o (.p .s (.p (.o (.p .s (.p .s (.p .s (.p .s (.p (.o .s) .s)))))) (.p (.o .s) .s)))) (.p (.o (.p .s (.p (.o .s) .s))) .s))))))))))))
  | 36 => (.p (.o (.p (.o .s) (.p (.o .s) .s))) (.p (.o .s) (.p (.o (.p .s (.p (.o .s) (.p (.o (.p .s (.p .s (.p .s (.p .s (.p (.o .s) .s)))))) .s)))) (.p (.o .s) (.p (.o .s) (.p (.o (.p .s (.p .s (.p (.o (.p .s (.p .s (.p .s (.p .s (.p (.o .s) .s)))))) .s)))) (.p (.o .s) (.p (.o .s) (.p (.o (.p .s (.p (.o (.p .s (.p .s (.p .s (.p .s (.p (.o .s) .s)))))) (.p (.o .s) .s)))) (.p (.o .s) (.p (.o (.p .s (.p (.o (.p .s (.p .s (.p .s (.p .s (.p (.o .s) .s)))))) (.p (.o .s) .s)))) (.p (.o (.p .s (.p (.o .s) .s))) .s))))))))))))
  | 37 => (.o .s)
  | 38 => (.p (.o (.p (.o .s) (.p (.o .s) .s))) (.p (.o .s) (.p (.o .s) (.p (.o .s) (.p (.o .s) .s)))))
  | 39 => (.p (.o (.p (.o .s) (.p (.o .s) .s))) (.p (.o .s) (.p (.o .s) (.p (.o .s) (.p (.o .s) .s)))))
  | 54 => (.p (.o .s) (.p (.o .s) .s))
  | 55 => (.p (.o .s) (.p (.o .s) .s))
  | 61 => (.o (.p .s (.p .s (.p .s (.p .s (.p (.o .s) .s))))))
  | 62 => (.p .s (.p (.o .s) (.p (.o (.p .s (.p .s (.p .s (.p .s (.p (.o .s) .s)))))) .s)))
  | 63 => (.p .s (.p (.o .s) (.p (.o (.p .s (.p .s (.p .s (.p .s (.p (.o .s) .s)))))) .s)))
  | 65 => (.p .s (.p .s (.p (.o (.p .s (.p .s (.p .s (.p .s (.p (.o .s) .s)))))) .s)))
  | 66 => (.p .s (.p .s (.p (.o (.p .s (.p .s (.p .s (.p .s (.p (.o .s) .s)))))) .s)))
  | 69 => (.p .s (.p (.o (.p .s (.p .s (.p .s (.p .s (.p (.o .s) .s)))))) (.p (.o .s) .s)))
  | 70 => (.p .s (.p (.o (.p .s (.p .s (.p .s (.p .s (.p (.o .s) .s)))))) (.p (.o .s) .s)))
  | 71 => (.p .s (.p (.o (.p .s (.p .s (.p .s (.p .s (.p (.o .s) .s)))))) (.p (.o .s) .s)))
  | 72 => (.p .s (.p (.o (.p .s (.p .s (.p .s (.p .s (.p (.o .s) .s)))))) (.p (.o .s) .s)))
  | 73 => (.p .s (.p (.o .s) .s))
  | 74 => (.p .s (.p (.o .s) .s))
  | 93 => (.o (.p .s (.p (.o .s) .s)))
  | 96 => (.p .s (.p (.o .s) .s))
  | 97 => (.p .s (.p (.o .s) .s))
  | 101 => (.p (.o .s) .s)
  | 102 => (.p (.o .s) .s)
  | 106 => (.p (.p (.o (.p (.o .s) (.p (.o .s) .s))) (.p (.o .s) (.p (.o .s) (.p (.o .s) (.p (.o .s) .s))))) .s)
  | 107 => (.p (.p (.o (.p (.o .s) (.p (.o .s) .s))) (.p (.o .s) (.p (.o .s) (.p (.o .s) (.p (.o .s) .s))))) .s)
  | 117 => (.p .s (.p .s (.p .s (.p .s (.p (.o .s) .s)))))
  | 118 => (.p .s (.p .s (.p .s (.p .s (.p (.o .s) .s)))))
  | 154 => (.o (.p .s (.p (.o .s) (.p (.o .s) .s))))
  | 155 => (.p (.p (.o (.p (.o .s) (.p (.o .s) .s))) (.p (.o .s) (.p (.o .s) (.p (.o .s) (.p (.o .s) .s))))) (.p (.o .s) (.p (.o .s) (.p (.o (.p .s (.p (.o .s) (.p (.o .s) .s)))) .s))))
  | 156 => (.p (.p (.o (.p (.o .s) (.p (.o .s) .s))) (.p (.o .s) (.p (.o .s) (.p (.o .s) (.p (.o .s) .s))))) (.p (.o .s) (.p (.o .s) (.p (.o (.p .s (.p (.o .s) (.p (.o .s) .s)))) .s))))
  | 177 => (.o .s)
  | 178 => (.p (.o .s) .s)
  | 179 => (.p (.o .s) .s)
  | 183 => (.o (.o .s))
  | 185 => (.p .s (.p (.o .s) (.p (.o .s) .s)))
  | 186 => (.p .s (.p (.o .s) (.p (.o .s) .s)))
  | 212 => (.p (.o .s) .s)
  | 213 => (.p (.o .s) .s)
  | _ => .s
noncomputable def env_ctx_checker_segmentsm1 : Env := { ty := envTy, eq := envEq, gam := gam_ctx_checker_segmentsm1, n := Tryz.f51.ntmps, fz := fz_ctx_checker_segmentsm1, fs := fs_ctx_checker_segmentsm1, lv := lv_ctx_checker_segmentsm1, om := om_ctx_checker_segmentsm1, al := [18, 19, 20, 21, 22, 54, 55, 56, 57, 58] }
theorem gamOk_ctx_checker_segmentsm1 : EnvFn Tryz.prog env_ctx_checker_segmentsm1 := by
  intro f gs c h
  unfold env_ctx_checker_segmentsm1 gam_ctx_checker_segmentsm1 at h
  simp only at h
  split at h <;> first | (cases h; done) | (cases h; exact h_ctx_checker_wantm1)
structure X_ctx_checker_segmentsm1_2 where
  f3 : It7
  f9 : List ((Int) × It3)
  f10 : Int
  f11 : Int
  f1000000 : It24

noncomputable def B_ctx_checker_segmentsm1_2 {R : Type} (k_exit_0 : It7 → It24 → Option R) (rec : X_ctx_checker_segmentsm1_2 → Option R) (x : X_ctx_checker_segmentsm1_2) : Option R :=
  let v1 := decide (x.f11 < x.f10)
  cond v1
  (cond (inB x.f11 (List.length x.f9))
  (let v2 := List.getD x.f9 x.f11.toNat ((0 : Int), (([] : List ((Int) × (Int) × (Int) × (Int) × (List (Int)) × Unit)), (([] : List (Int)), ())))
  let v3 := v2.1 == (0 : Int)
  cond v3
  (let v4 := ((List.length x.f1000000.1.2.2.2.1 : Nat) : Int)
  let v5 := decide (v4 > (0 : Int))
  p_ctx_checker_wantm1 x.f1000000 v5 (7 : Int) fun b6 =>
  none) none) none)
  (k_exit_0 x.f3 x.f1000000)
noncomputable def S_ctx_checker_segmentsm1_2 (x : X_ctx_checker_segmentsm1_2) : St := St.ofList [(2, (.bx 1000000 [])), (3, (.v (.ptr 36 Ty21) .s (some x.f3))), (9, (.v (.sl 70 (.pair (.int .i64) Ty14)) .s x.f9)), (10, (.v (.int .i64) .s x.f10)), (11, (.v (.int .i64) .s x.f11)), (1000000, (.v (.ptr 0 (.pair (.pair Ty8 Ty28) (.pair (.int .i64) .unit))) (.o (.p (.p (.o (.p (.o .s) (.p (.o .s) .s))) (.p (.o .s) (.p (.o .s) (.p (.o .s) (.p (.o .s) .s))))) .s)) (some x.f1000000)))]
def out_ctx_checker_segmentsm1_2 : Ex → List (Nat × Bool) | .exit 0 => [(2, false), (3, false), (1000000, false)] | _ => []
noncomputable def fuel_ctx_checker_segmentsm1_2 (x : X_ctx_checker_segmentsm1_2) : Nat := fuel64
noncomputable def c_ctx_checker_segmentsm1_2 : Code := match loopAt 2 (body Tryz.f51.body) with | some c => c | none => .skip
structure X_ctx_checker_segmentsm1_10 where
  f45 : List ((Int) × It3)
  f46 : Int
  f47 : Int
  f1000000 : It24

noncomputable def B_ctx_checker_segmentsm1_10 {R : Type} (k_exit_2 : It24 → Option R) (rec : X_ctx_checker_segmentsm1_10 → Option R) (x : X_ctx_checker_segmentsm1_10) : Option R :=
  let v1 := decide (x.f47 < x.f46)
  cond v1
  (cond (inB x.f47 (List.length x.f45))
  (let v2 := List.getD x.f45 x.f47.toNat ((0 : Int), (([] : List ((Int) × (Int) × (Int) × (Int) × (List (Int)) × Unit)), (([] : List (Int)), ())))
  let v3 := v2.1 == (0 : Int)
  cond v3
  (let v4 := ((List.length x.f1000000.1.2.2.2.2.1 : Nat) : Int)
  let v5 := decide (v4 > (0 : Int))
  p_ctx_checker_wantm1 x.f1000000 v5 (7 : Int) fun b6 =>
  none)
  (let v7 := IntKind.i64.wrap (x.f47 + (1 : Int))
  rec ⟨x.f45, x.f46, v7, x.f1000000⟩)) none)
  (k_exit_2 x.f1000000)
noncomputable def S_ctx_checker_segmentsm1_10 (x : X_ctx_checker_segmentsm1_10) : St := St.ofList [(2, (.bx 1000000 [])), (45, (.v (.sl 72 (.pair (.int .i64) Ty15)) .s x.f45)), (46, (.v (.int .i64) .s x.f46)), (47, (.v (.int .i64) .s x.f47)), (1000000, (.v (.ptr 0 (.pair (.pair Ty8 Ty28) (.pair (.int .i64) .unit))) (.o (.p (.p (.o (.p (.o .s) (.p (.o .s) .s))) (.p (.o .s) (.p (.o .s) (.p (.o .s) (.p (.o .s) .s))))) .s)) (some x.f1000000)))]
def out_ctx_checker_segmentsm1_10 : Ex → List (Nat × Bool) | .exit 2 => [(1000000, false)] | _ => []
noncomputable def fuel_ctx_checker_segmentsm1_10 (x : X_ctx_checker_segmentsm1_10) : Nat := fuel64
noncomputable def c_ctx_checker_segmentsm1_10 : Code := match loopAt 10 (body Tryz.f51.body) with | some c => c | none => .skip
noncomputable def lp_ctx_checker_segmentsm1 : Loops := fun z i R st K => match z, i with
  | false, 2 => coerce [(2, false), (3, false), (9, false), (10, false), (11, false), (1000000, false)] st (fun st => mBx 1000000 [] (st 2) (mP 36 Ty21 .s (st 3) fun y3 => mV (.sl 70 (.pair (.int .i64) Ty14)) .s (st 9) fun y9 => mV (.int .i64) .s (st 10) fun y10 => mV (.int .i64) .s (st 11) fun y11 => mP 0 (.pair (.pair Ty8 Ty28) (.pair (.int .i64) .unit)) (.o (.p (.p (.o (.p (.o .s) (.p (.o .s) .s))) (.p (.o .s) (.p (.o .s) (.p (.o .s) (.p (.o .s) .s))))) .s)) (st 1000000) fun y1000000 => loopN (B_ctx_checker_segmentsm1_2 (fun e3 e1000000 => K (.exit 0) (St.ofList [(2, (.bx 1000000 [])), (3, (.v (.ptr 36 Ty21) .s (some e3))), (1000000, (.v (.ptr 0 (.pair (.pair Ty8 Ty28) (.pair (.int .i64) .unit))) (.o (.p (.p (.o (.p (.o .s) (.p (.o .s) .s))) (.p (.o .s) (.p (.o .s) (.p (.o .s) (.p (.o .s) .s))))) .s)) (some e1000000)))]))) (fuel_ctx_checker_segmentsm1_2 ⟨y3, y9, y10, y11, y1000000⟩) ⟨y3, y9, y10, y11, y1000000⟩))
  | false, 10 => coerce [(2, false), (45, false), (46, false), (47, false), (1000000, false)] st (fun st => mBx 1000000 [] (st 2) (mV (.sl 72 (.pair (.int .i64) Ty15)) .s (st 45) fun y45 => mV (.int .i64) .s (st 46) fun y46 => mV (.int .i64) .s (st 47) fun y47 => mP 0 (.pair (.pair Ty8 Ty28) (.pair (.int .i64) .unit)) (.o (.p (.p (.o (.p (.o .s) (.p (.o .s) .s))) (.p (.o .s) (.p (.o .s) (.p (.o .s) (.p (.o .s) .s))))) .s)) (st 1000000) fun y1000000 => loopN (B_ctx_checker_segmentsm1_10 (fun e1000000 => K (.exit 2) (St.ofList [(1000000, (.v (.ptr 0 (.pair (.pair Ty8 Ty28) (.pair (.int .i64) .unit))) (.o (.p (.p (.o (.p (.o .s) (.p (.o .s) .s))) (.p (.o .s) (.p (.o .s) (.p (.o .s) (.p (.o .s) .s))))) .s)) (some e1000000)))]))) (fuel_ctx_checker_segmentsm1_10 ⟨y45, y46, y47, y1000000⟩) ⟨y45, y46, y47, y1000000⟩))
  | _, _ => none
theorem step_ctx_checker_segmentsm1_2 (R : Type) (K : Ex → St → Option R) (rec : St → Option R) (x : X_ctx_checker_segmentsm1_2) : evC env_ctx_checker_segmentsm1 lp_ctx_checker_segmentsm1 inl0 c_ctx_checker_segmentsm1_2 (S_ctx_checker_segmentsm1_2 x) (fun e st => match e with | .normal => coerce [(2, false), (3, false), (9, false), (10, false), (11, false), (1000000, false)] st rec | e => coerce (out_ctx_checker_segmentsm1_2 e) st (K e)) = B_ctx_checker_segmentsm1_2 (fun e3 e1000000 => K (.exit 0) (St.ofList [(2, (.bx 1000000 [])), (3, (.v (.ptr 36 Ty21) .s (some e3))), (1000000, (.v (.ptr 0 (.pair (.pair Ty8 Ty28) (.pair (.int .i64) .unit))) (.o (.p (.p (.o (.p (.o .s) (.p (.o .s) .s))) (.p (.o .s) (.p (.o .s) (.p (.o .s) (.p (.o .s) .s))))) .s)) (some e1000000)))])) (fun x => rec (S_ctx_checker_segmentsm1_2 x)) x := by kernel_rfl
theorem ok_ctx_checker_segmentsm1_2 : LoopOk env_ctx_checker_segmentsm1 lp_ctx_checker_segmentsm1 inl0 c_ctx_checker_segmentsm1_2 := by
  refine loopOk_of (hd := [(2, false), (3, false), (9, false), (10, false), (11, false), (1000000, false)]) (out := out_ctx_checker_segmentsm1_2) (S := S_ctx_checker_segmentsm1_2) (fun _ K => B_ctx_checker_segmentsm1_2 (fun e3 e1000000 => K (.exit 0) (St.ofList [(2, (.bx 1000000 [])), (3, (.v (.ptr 36 Ty21) .s (some e3))), (1000000, (.v (.ptr 0 (.pair (.pair Ty8 Ty28) (.pair (.int .i64) .unit))) (.o (.p (.p (.o (.p (.o .s) (.p (.o .s) .s))) (.p (.o .s) (.p (.o .s) (.p (.o .s) (.p (.o .s) .s))))) .s)) (some e1000000)))]))) fuel_ctx_checker_segmentsm1_2 2 step_ctx_checker_segmentsm1_2 (by kernel_rfl) (fun R K => fun st => mBx 1000000 [] (st 2) (mP 36 Ty21 .s (st 3) fun y3 => mV (.sl 70 (.pair (.int .i64) Ty14)) .s (st 9) fun y9 => mV (.int .i64) .s (st 10) fun y10 => mV (.int .i64) .s (st 11) fun y11 => mP 0 (.pair (.pair Ty8 Ty28) (.pair (.int .i64) .unit)) (.o (.p (.p (.o (.p (.o .s) (.p (.o .s) .s))) (.p (.o .s) (.p (.o .s) (.p (.o .s) (.p (.o .s) .s))))) .s)) (st 1000000) fun y1000000 => loopN (B_ctx_checker_segmentsm1_2 (fun e3 e1000000 => K (.exit 0) (St.ofList [(2, (.bx 1000000 [])), (3, (.v (.ptr 36 Ty21) .s (some e3))), (1000000, (.v (.ptr 0 (.pair (.pair Ty8 Ty28) (.pair (.int .i64) .unit))) (.o (.p (.p (.o (.p (.o .s) (.p (.o .s) .s))) (.p (.o .s) (.p (.o .s) (.p (.o .s) (.p (.o .s) .s))))) .s)) (some e1000000)))]))) (fuel_ctx_checker_segmentsm1_2 ⟨y3, y9, y10, y11, y1000000⟩) ⟨y3, y9, y10, y11, y1000000⟩)) (fun R st K => by kernel_rfl) ?_
  intro R K st r h
  obtain ⟨hy2, h⟩ := mBx_inv h
  obtain ⟨y3, hy3, h⟩ := mP_inv h
  obtain ⟨y9, hy9, h⟩ := mV_inv h
  obtain ⟨y10, hy10, h⟩ := mV_inv h
  obtain ⟨y11, hy11, h⟩ := mV_inv h
  obtain ⟨y1000000, hy1000000, h⟩ := mP_inv h
  exact ⟨⟨y3, y9, y10, y11, y1000000⟩, only_of_list (ofList_cons hy2 (ofList_cons hy3 (ofList_cons hy9 (ofList_cons hy10 (ofList_cons hy11 (ofList_cons hy1000000 rfl)))))), h⟩
theorem step_ctx_checker_segmentsm1_10 (R : Type) (K : Ex → St → Option R) (rec : St → Option R) (x : X_ctx_checker_segmentsm1_10) : evC env_ctx_checker_segmentsm1 lp_ctx_checker_segmentsm1 inl0 c_ctx_checker_segmentsm1_10 (S_ctx_checker_segmentsm1_10 x) (fun e st => match e with | .normal => coerce [(2, false), (45, false), (46, false), (47, false), (1000000, false)] st rec | e => coerce (out_ctx_checker_segmentsm1_10 e) st (K e)) = B_ctx_checker_segmentsm1_10 (fun e1000000 => K (.exit 2) (St.ofList [(1000000, (.v (.ptr 0 (.pair (.pair Ty8 Ty28) (.pair (.int .i64) .unit))) (.o (.p (.p (.o (.p (.o .s) (.p (.o .s) .s))) (.p (.o .s) (.p (.o .s) (.p (.o .s) (.p (.o .s) .s))))) .s)) (some e1000000)))])) (fun x => rec (S_ctx_checker_segmentsm1_10 x)) x := by kernel_rfl
theorem ok_ctx_checker_segmentsm1_10 : LoopOk env_ctx_checker_segmentsm1 lp_ctx_checker_segmentsm1 inl0 c_ctx_checker_segmentsm1_10 := by
  refine loopOk_of (hd := [(2, false), (45, false), (46, false), (47, false), (1000000, false)]) (out := out_ctx_checker_segmentsm1_10) (S := S_ctx_checker_segmentsm1_10) (fun _ K => B_ctx_checker_segmentsm1_10 (fun e1000000 => K (.exit 2) (St.ofList [(1000000, (.v (.ptr 0 (.pair (.pair Ty8 Ty28) (.pair (.int .i64) .unit))) (.o (.p (.p (.o (.p (.o .s) (.p (.o .s) .s))) (.p (.o .s) (.p (.o .s) (.p (.o .s) (.p (.o .s) .s))))) .s)) (some e1000000)))]))) fuel_ctx_checker_segmentsm1_10 10 step_ctx_checker_segmentsm1_10 (by kernel_rfl) (fun R K => fun st => mBx 1000000 [] (st 2) (mV (.sl 72 (.pair (.int .i64) Ty15)) .s (st 45) fun y45 => mV (.int .i64) .s (st 46) fun y46 => mV (.int .i64) .s (st 47) fun y47 => mP 0 (.pair (.pair Ty8 Ty28) (.pair (.int .i64) .unit)) (.o (.p (.p (.o (.p (.o .s) (.p (.o .s) .s))) (.p (.o .s) (.p (.o .s) (.p (.o .s) (.p (.o .s) .s))))) .s)) (st 1000000) fun y1000000 => loopN (B_ctx_checker_segmentsm1_10 (fun e1000000 => K (.exit 2) (St.ofList [(1000000, (.v (.ptr 0 (.pair (.pair Ty8 Ty28) (.pair (.int .i64) .unit))) (.o (.p (.p (.o (.p (.o .s) (.p (.o .s) .s))) (.p (.o .s) (.p (.o .s) (.p (.o .s) (.p (.o .s) .s))))) .s)) (some e1000000)))]))) (fuel_ctx_checker_segmentsm1_10 ⟨y45, y46, y47, y1000000⟩) ⟨y45, y46, y47, y1000000⟩)) (fun R st K => by kernel_rfl) ?_
  intro R K st r h
  obtain ⟨hy2, h⟩ := mBx_inv h
  obtain ⟨y45, hy45, h⟩ := mV_inv h
  obtain ⟨y46, hy46, h⟩ := mV_inv h
  obtain ⟨y47, hy47, h⟩ := mV_inv h
  obtain ⟨y1000000, hy1000000, h⟩ := mP_inv h
  exact ⟨⟨y45, y46, y47, y1000000⟩, only_of_list (ofList_cons hy2 (ofList_cons hy45 (ofList_cons hy46 (ofList_cons hy47 (ofList_cons hy1000000 rfl))))), h⟩
theorem loops_ctx_checker_segmentsm1 : LoopsOk env_ctx_checker_segmentsm1 lp_ctx_checker_segmentsm1 inl0 (body Tryz.f51.body) := by
  refine loopsOk_of (fun c hc => ?_) (fun c hc => ?_)
  · rw [show loopsL (body Tryz.f51.body) = [c_ctx_checker_segmentsm1_2, c_ctx_checker_segmentsm1_10] by kernel_rfl] at hc
    simp only [List.mem_cons, List.not_mem_nil, or_false] at hc
    rcases hc with rfl | rfl
    · exact ok_ctx_checker_segmentsm1_2
    · exact ok_ctx_checker_segmentsm1_10
  · rw [show joinsL env_ctx_checker_segmentsm1 (body Tryz.f51.body) = [] by kernel_rfl] at hc; cases hc
noncomputable def p_ctx_checker_segmentsm1 {R : Type} (a0 : It24) (a1 : It7) (K : It24 → Option R) : Option R :=
  let v1 := ((List.length a1.2.2.2.2.2.2.2.2.1 : Nat) : Int)
  loopN (B_ctx_checker_segmentsm1_2 (fun w2 w3 =>
  let v4 := ((List.length w2.2.2.2.2.2.2.2.2.2.2.1 : Nat) : Int)
  loopN (B_ctx_checker_segmentsm1_10 (fun w5 =>
  K w5)) (fuel_ctx_checker_segmentsm1_10 ⟨w2.2.2.2.2.2.2.2.2.2.2.1, v4, (0 : Int), w3⟩) ⟨w2.2.2.2.2.2.2.2.2.2.2.1, v4, (0 : Int), w3⟩)) (fuel_ctx_checker_segmentsm1_2 ⟨a1, a1.2.2.2.2.2.2.2.2.1, v1, (0 : Int), a0⟩) ⟨a1, a1.2.2.2.2.2.2.2.2.1, v1, (0 : Int), a0⟩
noncomputable def cs_ctx_checker_segmentsm1 : CSpec := { ins := [(.ref (.pair (.pair Ty8 Ty28) (.pair (.int .i64) .unit)) (.p (.p (.o (.p (.o .s) (.p (.o .s) .s))) (.p (.o .s) (.p (.o .s) (.p (.o .s) (.p (.o .s) .s))))) .s) (.p (.p (.o (.p (.o .s) (.p (.o .s) .s))) (.p (.o .s) (.p (.o .s) (.p (.o .s) (.p (.o .s) .s))))) .s)), (.val Ty21 .s)], outs := [], fn := fun (d : It24 × It7 × Unit) K _ => p_ctx_checker_segmentsm1 d.1 d.2.1 (fun b0 => K ((()) : Unit) ((b0, ()) : It24 × Unit)) }
theorem h_ctx_checker_segmentsm1 : Holds Tryz.prog 51 cs_ctx_checker_segmentsm1 := by
  refine holds_of (env := env_ctx_checker_segmentsm1) (inl := inl0) (fn := Tryz.f51) (code := body Tryz.f51.body) (rs := []) (lp := lp_ctx_checker_segmentsm1) mixed ⟨envTyOk.ty, envTyOk.eq⟩ gamOk_ctx_checker_segmentsm1 inl0_ok Tryz.func51 (by kernel_rfl) (by kernel_rfl) (by kernel_rfl) (by kernel_rfl) (by kernel_rfl) loops_ctx_checker_segmentsm1 (by kernel_rfl) ?_
  intro d R K Kp res h
  have : evC env_ctx_checker_segmentsm1 lp_ctx_checker_segmentsm1 inl0 (body Tryz.f51.body) (St.start cs_ctx_checker_segmentsm1.ins d) (retK env_ctx_checker_segmentsm1 cs_ctx_checker_segmentsm1.ins cs_ctx_checker_segmentsm1.outs [] cs_ctx_checker_segmentsm1.pan K Kp) = cs_ctx_checker_segmentsm1.fn d K Kp := by kernel_rfl
  rw [this]; exact h
end Go.Trm.G1
