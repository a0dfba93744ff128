import Derived.Test.YthidebepdpkgkabTrmQRead21
import Derived.Test.YthidebepdpkgkabTrmLCertA
set_option linter.unusedVariables false
set_option linter.unusedSimpArgs false
namespace Go.Trm.G1

/-! Modules: Same of one and the same, Short, customs -/

theorem count_loop {X R : Type} (B : (X → Option R) → X → Option R) (f : Nat → X) (N : Nat) (T : Option R) (hstep : ∀ rec i, i < N → B rec (f i) = rec (f (i + 1))) (hend : ∀ rec, B rec (f N) = T) : ∀ (n i : Nat), i ≤ N → N - i < n → loopN B n (f i) = T := by
  intro n
  induction n with
  | zero => intro i _ h; omega
  | succ n ih =>
    intro i hi hn
    rw [loop_succ]
    by_cases h : i = N
    · subst h; exact hend _
    · rw [hstep _ _ (by omega)]
      exact ih (i + 1) (by omega) (by omega)

theorem acc_loop {X R : Type} (B : (X → Option R) → X → Option R) (f : Nat → Int → X) (N : Nat) (kx : Int → Option R) (Good : Int → Prop) (hstep : ∀ rec i n, i < N → Good n → (∃ n', Good n' ∧ B rec (f i n) = rec (f (i + 1) n')) ∨ B rec (f i n) = kx n) (hend : ∀ rec n, B rec (f N n) = kx n) :
    ∀ (m i : Nat) (n : Int), i ≤ N → N - i < m → Good n → ∃ n', Good n' ∧ loopN B m (f i n) = kx n' := by
  intro m
  induction m with
  | zero => intro i n _ h; omega
  | succ m ih =>
    intro i n hi hm hg
    rw [loop_succ]
    by_cases h : i = N
    · subst h; exact ⟨n, hg, hend _ _⟩
    · rcases hstep (loopN B m) i n (by omega) hg with ⟨n', h1, h2⟩ | h2
      · rw [h2]
        exact ih (i + 1) n' (by omega) (by omega) h1
      · exact ⟨n, hg, h2⟩

section
variable {R : Type}
theorem slices_EqualInt_self (a : List Int) (K : Bool → Option R) (h : a.length ≤ 9223372036854775807) : p_slices_EqualInt a a K = K true := by
  unfold p_slices_EqualInt fuel_slices_EqualInt_4
  simp only [cond_ne, if_true]
  refine count_loop _ (fun i => (⟨a, a, a.length, i⟩ : X_slices_EqualInt_4)) a.length _ (fun rec i hi => ?_) (fun rec => ?_) fuel64 0 (by omega) (lt_fuel (by omega))
  · unfold B_slices_EqualInt_4
    simp only [cond_dec, cond_inB]
    rw [if_pos (by omega)]
    rw [if_pos (by omega), if_pos (by omega)]
    simp only [BEq.rfl, bne_self_eq_false, Bool.and_self, Bool.not_true, cond_false]
    rw [w_i64 (by omega)]
    rfl
  · unfold B_slices_EqualInt_4
    simp only [cond_dec]
    rw [if_neg (by omega)]

theorem slices_Equal_Import_self (a : List ((List UInt8) × It3)) (K : Bool → Option R) (h : a.length ≤ 9223372036854775807) : p_slices_Equal_Import a a K = K true := by
  unfold p_slices_Equal_Import fuel_slices_Equal_Import_4
  simp only [cond_ne, if_true]
  refine count_loop _ (fun i => (⟨a, a, a.length, i⟩ : X_slices_Equal_Import_4)) a.length _ (fun rec i hi => ?_) (fun rec => ?_) fuel64 0 (by omega) (lt_fuel (by omega))
  · unfold B_slices_Equal_Import_4
    simp only [cond_dec, cond_inB]
    rw [if_pos (by omega)]
    rw [if_pos (by omega), if_pos (by omega)]
    simp only [BEq.rfl, bne_self_eq_false, Bool.and_self, Bool.not_true, cond_false]
    rw [w_i64 (by omega)]
    rfl
  · unfold B_slices_Equal_Import_4
    simp only [cond_dec]
    rw [if_neg (by omega)]

theorem slices_Equal_Limits_self (a : List ((Int) × (Bool) × (Int) × Unit)) (K : Bool → Option R) (h : a.length ≤ 9223372036854775807) : p_slices_Equal_Limits a a K = K true := by
  unfold p_slices_Equal_Limits fuel_slices_Equal_Limits_4
  simp only [cond_ne, if_true]
  refine count_loop _ (fun i => (⟨a, a, a.length, i⟩ : X_slices_Equal_Limits_4)) a.length _ (fun rec i hi => ?_) (fun rec => ?_) fuel64 0 (by omega) (lt_fuel (by omega))
  · unfold B_slices_Equal_Limits_4
    simp only [cond_dec, cond_inB]
    rw [if_pos (by omega)]
    rw [if_pos (by omega), if_pos (by omega)]
    simp only [BEq.rfl, bne_self_eq_false, Bool.and_self, Bool.not_true, cond_false]
    rw [w_i64 (by omega)]
    rfl
  · unfold B_slices_Equal_Limits_4
    simp only [cond_dec]
    rw [if_neg (by omega)]

theorem slices_Equal_Export_self (a : List ((List UInt8) × (Int) × (Int) × Unit)) (K : Bool → Option R) (h : a.length ≤ 9223372036854775807) : p_slices_Equal_Export a a K = K true := by
  unfold p_slices_Equal_Export fuel_slices_Equal_Export_4
  simp only [cond_ne, if_true]
  refine count_loop _ (fun i => (⟨a, a, a.length, i⟩ : X_slices_Equal_Export_4)) a.length _ (fun rec i hi => ?_) (fun rec => ?_) fuel64 0 (by omega) (lt_fuel (by omega))
  · unfold B_slices_Equal_Export_4
    simp only [cond_dec, cond_inB]
    rw [if_pos (by omega)]
    rw [if_pos (by omega), if_pos (by omega)]
    simp only [BEq.rfl, bne_self_eq_false, Bool.and_self, Bool.not_true, cond_false]
    rw [w_i64 (by omega)]
    rfl
  · unfold B_slices_Equal_Export_4
    simp only [cond_dec]
    rw [if_neg (by omega)]

theorem same1_self (a : (List (Int)) × (List (Int)) × Unit) (K : Bool → Option R) (h : a.1.length ≤ 9223372036854775807 ∧ a.2.1.length ≤ 9223372036854775807) : p_load_Same_1 a a K = K true := by
  unfold p_load_Same_1
  rw [slices_EqualInt_self _ _ h.1, cond_true, slices_EqualInt_self _ _ h.2]
theorem instr_self (a : (Int) × (Int) × (Int) × (Int) × (List (Int)) × Unit) (K : Bool → Option R) (h : a.2.2.2.2.1.length ≤ 9223372036854775807) : p_load_instrs_1 a a K = K true := by
  unfold p_load_instrs_1
  simp only [BEq.rfl, cond_true]
  rw [slices_EqualInt_self _ _ h]
theorem slices_EqualFunc_Instrg82_self (a : List ((Int) × (Int) × (Int) × (Int) × (List (Int)) × Unit)) (K : Bool → Option R) (h : a.length ≤ 9223372036854775807) (he : ∀ y ∈ a, y.2.2.2.2.1.length ≤ 9223372036854775807) : p_slices_EqualFunc_Instrg82 a a K = K true := by
  unfold p_slices_EqualFunc_Instrg82 fuel_slices_EqualFunc_Instrg82_4
  simp only [cond_ne, if_true]
  refine count_loop _ (fun i => (⟨a, a, a.length, i⟩ : X_slices_EqualFunc_Instrg82_4)) a.length _ (fun rec i hi => ?_) (fun rec => ?_) fuel64 0 (by omega) (lt_fuel (by omega))
  · unfold B_slices_EqualFunc_Instrg82_4
    simp only [cond_dec, cond_inB]
    rw [if_pos (by omega)]
    rw [if_pos (by omega), if_pos (by omega), Int.toNat_natCast]
    rw [show a.getD i _ = a[i] from by simp [List.getD, hi], instr_self _ _ (he _ (List.getElem_mem hi))]
    simp only [Bool.not_true, cond_false]
    rw [w_i64 (by omega)]
    rfl
  · unfold B_slices_EqualFunc_Instrg82_4
    simp only [cond_dec]
    rw [if_neg (by omega)]

abbrev okB (a : List ((Int) × (Int) × (Int) × (Int) × (List (Int)) × Unit)) : Prop := a.length ≤ 9223372036854775807 ∧ ∀ y ∈ a, y.2.2.2.2.1.length ≤ 9223372036854775807
theorem instrs_self (a : List ((Int) × (Int) × (Int) × (Int) × (List (Int)) × Unit)) (K : Bool → Option R) (h : okB a) : p_load_instrs a a K = K true := by
  unfold p_load_instrs
  rw [slices_EqualFunc_Instrg82_self _ _ h.1 h.2]
theorem same2_self (a : (Int) × It4) (K : Bool → Option R) (h : a.2.1.length ≤ 9223372036854775807 ∧ okB a.2.2.1) : p_load_Same_2 a a K = K true := by
  unfold p_load_Same_2
  simp only [BEq.rfl, cond_true]
  rw [slices_EqualInt_self _ _ h.1, cond_true, instrs_self _ _ h.2]
theorem same3_self (a : (Int) × It5) (K : Bool → Option R) (h : okB a.2.2.1) : p_load_Same_3 a a K = K true := by
  unfold p_load_Same_3
  simp only [BEq.rfl, cond_true]
  rw [instrs_self _ _ h]
theorem same4_self (a : (Int) × It6) (K : Bool → Option R) (h : okB a.2.1 ∧ a.2.2.1.length ≤ 9223372036854775807) : p_load_Same_4 a a K = K true := by
  unfold p_load_Same_4
  simp only [BEq.rfl, cond_true]
  rw [instrs_self _ _ h.1, cond_true, slices_EqualInt_self _ _ h.2]
theorem same5_self (a : (Int) × It6) (K : Bool → Option R) (h : okB a.2.1) : p_load_Same_5 a a K = K true := by
  unfold p_load_Same_5 p_bytes_Equal
  simp only [BEq.rfl, cond_true]
  rw [instrs_self _ _ h, cond_true]
theorem same6_self (a : (List UInt8) × (List (Int)) × Unit) (K : Bool → Option R) : p_load_Same_6 a a K = K true := by
  unfold p_load_Same_6 p_bytes_Equal
  simp only [BEq.rfl, cond_true]
theorem slices_EqualFunc_FuncTypeg55_self (a : List ((List (Int)) × (List (Int)) × Unit)) (K : Bool → Option R) (h : a.length ≤ 9223372036854775807) (he : ∀ y ∈ a, y.1.length ≤ 9223372036854775807 ∧ y.2.1.length ≤ 9223372036854775807) : p_slices_EqualFunc_FuncTypeg55 a a K = K true := by
  unfold p_slices_EqualFunc_FuncTypeg55 fuel_slices_EqualFunc_FuncTypeg55_4
  simp only [cond_ne, if_true]
  refine count_loop _ (fun i => (⟨a, a, a.length, i⟩ : X_slices_EqualFunc_FuncTypeg55_4)) a.length _ (fun rec i hi => ?_) (fun rec => ?_) fuel64 0 (by omega) (lt_fuel (by omega))
  · unfold B_slices_EqualFunc_FuncTypeg55_4
    simp only [cond_dec, cond_inB]
    rw [if_pos (by omega)]
    rw [if_pos (by omega), if_pos (by omega), Int.toNat_natCast]
    rw [show a.getD i _ = a[i] from by simp [List.getD, hi], same1_self _ _ (he _ (List.getElem_mem hi))]
    simp only [Bool.not_true, cond_false]
    rw [w_i64 (by omega)]
    rfl
  · unfold B_slices_EqualFunc_FuncTypeg55_4
    simp only [cond_dec]
    rw [if_neg (by omega)]

theorem slices_EqualFunc_Funcg59_self (a : List ((Int) × It4)) (K : Bool → Option R) (h : a.length ≤ 9223372036854775807) (he : ∀ y ∈ a, y.2.1.length ≤ 9223372036854775807 ∧ okB y.2.2.1) : p_slices_EqualFunc_Funcg59 a a K = K true := by
  unfold p_slices_EqualFunc_Funcg59 fuel_slices_EqualFunc_Funcg59_4
  simp only [cond_ne, if_true]
  refine count_loop _ (fun i => (⟨a, a, a.length, i⟩ : X_slices_EqualFunc_Funcg59_4)) a.length _ (fun rec i hi => ?_) (fun rec => ?_) fuel64 0 (by omega) (lt_fuel (by omega))
  · unfold B_slices_EqualFunc_Funcg59_4
    simp only [cond_dec, cond_inB]
    rw [if_pos (by omega)]
    rw [if_pos (by omega), if_pos (by omega), Int.toNat_natCast]
    rw [show a.getD i _ = a[i] from by simp [List.getD, hi], same2_self _ _ (he _ (List.getElem_mem hi))]
    simp only [Bool.not_true, cond_false]
    rw [w_i64 (by omega)]
    rfl
  · unfold B_slices_EqualFunc_Funcg59_4
    simp only [cond_dec]
    rw [if_neg (by omega)]

theorem slices_EqualFunc_Globalg63_self (a : List ((Int) × It5)) (K : Bool → Option R) (h : a.length ≤ 9223372036854775807) (he : ∀ y ∈ a, okB y.2.2.1) : p_slices_EqualFunc_Globalg63 a a K = K true := by
  unfold p_slices_EqualFunc_Globalg63 fuel_slices_EqualFunc_Globalg63_4
  simp only [cond_ne, if_true]
  refine count_loop _ (fun i => (⟨a, a, a.length, i⟩ : X_slices_EqualFunc_Globalg63_4)) a.length _ (fun rec i hi => ?_) (fun rec => ?_) fuel64 0 (by omega) (lt_fuel (by omega))
  · unfold B_slices_EqualFunc_Globalg63_4
    simp only [cond_dec, cond_inB]
    rw [if_pos (by omega)]
    rw [if_pos (by omega), if_pos (by omega), Int.toNat_natCast]
    rw [show a.getD i _ = a[i] from by simp [List.getD, hi], same3_self _ _ (he _ (List.getElem_mem hi))]
    simp only [Bool.not_true, cond_false]
    rw [w_i64 (by omega)]
    rfl
  · unfold B_slices_EqualFunc_Globalg63_4
    simp only [cond_dec]
    rw [if_neg (by omega)]

theorem slices_EqualFunc_Elemg66_self (a : List ((Int) × It6)) (K : Bool → Option R) (h : a.length ≤ 9223372036854775807) (he : ∀ y ∈ a, okB y.2.1 ∧ y.2.2.1.length ≤ 9223372036854775807) : p_slices_EqualFunc_Elemg66 a a K = K true := by
  unfold p_slices_EqualFunc_Elemg66 fuel_slices_EqualFunc_Elemg66_4
  simp only [cond_ne, if_true]
  refine count_loop _ (fun i => (⟨a, a, a.length, i⟩ : X_slices_EqualFunc_Elemg66_4)) a.length _ (fun rec i hi => ?_) (fun rec => ?_) fuel64 0 (by omega) (lt_fuel (by omega))
  · unfold B_slices_EqualFunc_Elemg66_4
    simp only [cond_dec, cond_inB]
    rw [if_pos (by omega)]
    rw [if_pos (by omega), if_pos (by omega), Int.toNat_natCast]
    rw [show a.getD i _ = a[i] from by simp [List.getD, hi], same4_self _ _ (he _ (List.getElem_mem hi))]
    simp only [Bool.not_true, cond_false]
    rw [w_i64 (by omega)]
    rfl
  · unfold B_slices_EqualFunc_Elemg66_4
    simp only [cond_dec]
    rw [if_neg (by omega)]

theorem slices_EqualFunc_Datag68_self (a : List ((Int) × It6)) (K : Bool → Option R) (h : a.length ≤ 9223372036854775807) (he : ∀ y ∈ a, okB y.2.1) : p_slices_EqualFunc_Datag68 a a K = K true := by
  unfold p_slices_EqualFunc_Datag68 fuel_slices_EqualFunc_Datag68_4
  simp only [cond_ne, if_true]
  refine count_loop _ (fun i => (⟨a, a, a.length, i⟩ : X_slices_EqualFunc_Datag68_4)) a.length _ (fun rec i hi => ?_) (fun rec => ?_) fuel64 0 (by omega) (lt_fuel (by omega))
  · unfold B_slices_EqualFunc_Datag68_4
    simp only [cond_dec, cond_inB]
    rw [if_pos (by omega)]
    rw [if_pos (by omega), if_pos (by omega), Int.toNat_natCast]
    rw [show a.getD i _ = a[i] from by simp [List.getD, hi], same5_self _ _ (he _ (List.getElem_mem hi))]
    simp only [Bool.not_true, cond_false]
    rw [w_i64 (by omega)]
    rfl
  · unfold B_slices_EqualFunc_Datag68_4
    simp only [cond_dec]
    rw [if_neg (by omega)]

theorem slices_EqualFunc_Customg71_self (a : List ((List UInt8) × (List (Int)) × Unit)) (K : Bool → Option R) (h : a.length ≤ 9223372036854775807) : p_slices_EqualFunc_Customg71 a a K = K true := by
  unfold p_slices_EqualFunc_Customg71 fuel_slices_EqualFunc_Customg71_4
  simp only [cond_ne, if_true]
  refine count_loop _ (fun i => (⟨a, a, a.length, i⟩ : X_slices_EqualFunc_Customg71_4)) a.length _ (fun rec i hi => ?_) (fun rec => ?_) fuel64 0 (by omega) (lt_fuel (by omega))
  · unfold B_slices_EqualFunc_Customg71_4
    simp only [cond_dec, cond_inB]
    rw [if_pos (by omega)]
    rw [if_pos (by omega), if_pos (by omega), Int.toNat_natCast]
    rw [show a.getD i _ = a[i] from by simp [List.getD, hi], same6_self]
    simp only [Bool.not_true, cond_false]
    rw [w_i64 (by omega)]
    rfl
  · unfold B_slices_EqualFunc_Customg71_4
    simp only [cond_dec]
    rw [if_neg (by omega)]


/-- no list is too long to be gone through -/
structure LensOk (m : It10) : Prop where
  types : m.1.length ≤ 9223372036854775807
  type : ∀ y ∈ m.1, y.1.length ≤ 9223372036854775807 ∧ y.2.1.length ≤ 9223372036854775807
  imports : m.2.1.length ≤ 9223372036854775807
  funcs : m.2.2.1.length ≤ 9223372036854775807
  func : ∀ y ∈ m.2.2.1, y.2.1.length ≤ 9223372036854775807 ∧ okB y.2.2.1
  tables : m.2.2.2.1.length ≤ 9223372036854775807
  mems : m.2.2.2.2.1.length ≤ 9223372036854775807
  globals : m.2.2.2.2.2.1.length ≤ 9223372036854775807
  global : ∀ y ∈ m.2.2.2.2.2.1, okB y.2.2.1
  exports : m.2.2.2.2.2.2.1.length ≤ 9223372036854775807
  starts : m.2.2.2.2.2.2.2.1.length ≤ 9223372036854775807
  elems : m.2.2.2.2.2.2.2.2.1.length ≤ 9223372036854775807
  elem : ∀ y ∈ m.2.2.2.2.2.2.2.2.1, okB y.2.1 ∧ y.2.2.1.length ≤ 9223372036854775807
  counts : m.2.2.2.2.2.2.2.2.2.1.length ≤ 9223372036854775807
  datas : m.2.2.2.2.2.2.2.2.2.2.1.length ≤ 9223372036854775807
  data : ∀ y ∈ m.2.2.2.2.2.2.2.2.2.2.1, okB y.2.1
  customs : m.2.2.2.2.2.2.2.2.2.2.2.1.length ≤ 9223372036854775807

theorem load_same_self (m : It10) (K : Bool → Option R) (h : LensOk m) : p_load_Same m m K = K true := by
  unfold p_load_Same
  rw [slices_EqualFunc_FuncTypeg55_self _ _ h.types h.type, cond_true, slices_Equal_Import_self _ _ h.imports, cond_true, slices_EqualFunc_Funcg59_self _ _ h.funcs h.func, cond_true,
    slices_Equal_Limits_self _ _ h.tables, cond_true, slices_Equal_Limits_self _ _ h.mems, cond_true, slices_EqualFunc_Globalg63_self _ _ h.globals h.global, cond_true, slices_Equal_Export_self _ _ h.exports, cond_true,
    slices_EqualInt_self _ _ h.starts, cond_true, slices_EqualFunc_Elemg66_self _ _ h.elems h.elem, cond_true, slices_EqualInt_self _ _ h.counts, cond_true, slices_EqualFunc_Datag68_self _ _ h.datas h.data, cond_true,
    slices_EqualFunc_Customg71_self _ _ h.customs]
end
end Go.Trm.G1
