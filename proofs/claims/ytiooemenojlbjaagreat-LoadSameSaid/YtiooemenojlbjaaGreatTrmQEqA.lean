import Derived.Test.YtiooemenojlbjaaGreatTrmPlain
import Derived.Test.YtiooemenojlbjaaGreatTrmG1
set_option linter.unusedVariables false
set_option linter.unusedSimpArgs false
namespace Go.Trm.G1

/-! Same, of modules: whether they are equal -/

theorem eq_loop {α X R : Type} [DecidableEq α] (B : (X → Option R) → X → Option R) (f : Nat → X) (a b : List α) (d : α) (kF kT : Option R) (hl : a.length = b.length)
    (hstep : ∀ rec i, i < a.length → B rec (f i) = if a.getD i d = b.getD i d then rec (f (i + 1)) else kF) (hend : ∀ rec, B rec (f a.length) = kT) :
    ∀ (n i : Nat), i ≤ a.length → a.length - i < n → loopN B n (f i) = if a.drop i = b.drop i then kT else kF := by
  intro n
  induction n with
  | zero => intro i _ h; omega
  | succ n ih =>
    intro i hi hn
    rw [loop_succ]
    rcases Nat.lt_or_ge i a.length with h | h
    · rw [hstep _ i h, ih (i + 1) (by omega) (by omega)]
      have h1 : a.drop i = a.getD i d :: a.drop (i + 1) := by
        rw [List.drop_eq_getElem_cons h]; simp [List.getD, h]
      have h2 : b.drop i = b.getD i d :: b.drop (i + 1) := by
        rw [List.drop_eq_getElem_cons (by omega)]; simp [List.getD, show i < b.length by omega]
      rw [h1, h2]
      by_cases hc : a.getD i d = b.getD i d
      · rw [if_pos hc, hc]; simp only [List.cons.injEq, true_and]
      · rw [if_neg hc, if_neg (fun h => hc (by injection h))]
    · have : i = a.length := by omega
      subst this
      rw [hend, List.drop_of_length_le (Nat.le_refl _), List.drop_of_length_le (by omega), if_pos rfl]

theorem ok_loop {α X R : Type} [DecidableEq α] (B : (X → Option R) → X → Option R) (f : Nat → Bool → X) (a b : List α) (d : α) (T : Bool → Option R) (hl : a.length = b.length)
    (hstep : ∀ rec i ok, i < a.length → B rec (f i ok) = rec (f (i + 1) (ok && decide (a.getD i d = b.getD i d)))) (hend : ∀ rec ok, B rec (f a.length ok) = T ok) :
    ∀ (n i : Nat) (ok : Bool), i ≤ a.length → a.length - i < n → loopN B n (f i ok) = T (ok && decide (a.drop i = b.drop i)) := by
  intro n
  induction n with
  | zero => intro i _ _ h; omega
  | succ n ih =>
    intro i ok hi hn
    rw [loop_succ]
    rcases Nat.lt_or_ge i a.length with h | h
    · rw [hstep _ i ok h, ih (i + 1) _ (by omega) (by omega)]
      have h1 : a.drop i = a.getD i d :: a.drop (i + 1) := by
        rw [List.drop_eq_getElem_cons h]; simp [List.getD, h]
      have h2 : b.drop i = b.getD i d :: b.drop (i + 1) := by
        rw [List.drop_eq_getElem_cons (by omega)]; simp [List.getD, show i < b.length by omega]
      rw [h1, h2]
      congr 1
      generalize a.getD i d = u, b.getD i d = v, a.drop (i + 1) = p, b.drop (i + 1) = q
      by_cases hc : u = v <;> by_cases hd : p = q <;> simp [hc, hd]
    · have : i = a.length := by omega
      subst this
      rw [hend, List.drop_of_length_le (Nat.le_refl _), List.drop_of_length_le (by omega)]
      simp
theorem getD_mem {α : Type} {l : List α} {i : Nat} {d : α} (h : i < l.length) : l.getD i d ∈ l := by
  rw [show l.getD i d = l[i] by simp [List.getD, h]]
  exact List.getElem_mem h
abbrev byL (l : List Int) : Prop := ∀ n ∈ l, IntKind.u8.has n
theorem u8s_inj {a b : List Int} (ha : byL a) (hb : byL b) (h : u8s a = u8s b) : a = b := by rw [← nums_u8s ha, ← nums_u8s hb, h]
section
variable {R : Type}

instance dec1 : DecidableEq ((List Int) × Unit) := inferInstance
instance dec2 : DecidableEq ((Int) × (List Int) × Unit) := inferInstance
instance dec3 : DecidableEq ((Int) × (Int) × (List Int) × Unit) := inferInstance
instance dec4 : DecidableEq ((Int) × (Int) × (Int) × (List Int) × Unit) := inferInstance
instance dec5 : DecidableEq ((Int) × (Int) × (Int) × (Int) × (List Int) × Unit) := inferInstance
instance dec6 : DecidableEq ((List Int) × (List Int) × Unit) := inferInstance
instance dec7 : DecidableEq ((Int) × Unit) := inferInstance
instance dec8 : DecidableEq ((Bool) × (Int) × Unit) := inferInstance
instance dec9 : DecidableEq ((Int) × (Bool) × (Int) × Unit) := inferInstance
instance dec10 : DecidableEq ((Int) × (Int) × Unit) := inferInstance
instance dec11 : DecidableEq ((List UInt8) × (Int) × (Int) × Unit) := inferInstance
instance dec12 : DecidableEq ((Bool) × Unit) := inferInstance
instance dec13 : DecidableEq ((Int × Bool × Int × Unit) × (Bool) × Unit) := inferInstance
instance dec14 : DecidableEq ((Int) × (Int × Bool × Int × Unit) × (Bool) × Unit) := inferInstance
instance dec15 : DecidableEq ((Int) × (Int) × (Int × Bool × Int × Unit) × (Bool) × Unit) := inferInstance
instance dec16 : DecidableEq ((List UInt8) × (Int) × (Int) × (Int × Bool × Int × Unit) × (Bool) × Unit) := inferInstance
instance dec17 : DecidableEq ((List UInt8) × (List UInt8) × (Int) × (Int) × (Int × Bool × Int × Unit) × (Bool) × Unit) := inferInstance
instance dec18 : DecidableEq ((List (Int × Int × Int × Int × (List Int) × Unit)) × Unit) := inferInstance
instance dec19 : DecidableEq ((List Int) × (List (Int × Int × Int × Int × (List Int) × Unit)) × Unit) := inferInstance
instance dec20 : DecidableEq ((Int) × (List Int) × (List (Int × Int × Int × Int × (List Int) × Unit)) × Unit) := inferInstance
instance dec21 : DecidableEq ((Bool) × (List (Int × Int × Int × Int × (List Int) × Unit)) × Unit) := inferInstance
instance dec22 : DecidableEq ((Int) × (Bool) × (List (Int × Int × Int × Int × (List Int) × Unit)) × Unit) := inferInstance
instance dec23 : DecidableEq ((List (Int × Int × Int × Int × (List Int) × Unit)) × (List Int) × Unit) := inferInstance
instance dec24 : DecidableEq ((Int) × (List (Int × Int × Int × Int × (List Int) × Unit)) × (List Int) × Unit) := inferInstance
instance dec25 : DecidableEq ((List UInt8) × (List Int) × Unit) := inferInstance
theorem slices_EqualInt_eq (a b : List (Int)) (K : Bool → Option R) (h : a.length ≤ 9223372036854775807) : p_slices_EqualInt a b K = K (decide (a = b)) := by
  unfold p_slices_EqualInt fuel_slices_EqualInt_4
  simp only [cond_ne]
  by_cases hl : a.length = b.length
  · rw [if_pos (by omega)]
    refine Eq.trans (eq_loop _ (fun i => (⟨a, b, (a.length : Int), (i : Int)⟩ : X_slices_EqualInt_4)) a b (0 : Int) (K false) (K true) hl (fun rec i hi => ?_) (fun rec => ?_) fuel64 0 (by omega) (lt_fuel (by omega))) ?_
    · unfold B_slices_EqualInt_4
      simp only [cond_dec, cond_inB]
      rw [if_pos (by omega), if_pos (by omega), if_pos (by omega), Int.toNat_natCast, w_i64 (by omega)]
      simp only [cond_ne]; rfl
    · unfold B_slices_EqualInt_4
      simp only [cond_dec]
      rw [if_neg (by omega)]
    · simp only [List.drop_zero]
      by_cases hc : a = b <;> simp [hc]
  · rw [if_neg (by omega), decide_eq_false (fun hc => hl (by rw [hc]))]

theorem ref05_SameInts_eq (a b : List (Int)) (K : Bool → Option R) (h : a.length ≤ 9223372036854775807) : p_ref05_SameInts a b K = K (decide (a = b)) := by
  unfold p_ref05_SameInts fuel_ref05_SameInts_4
  simp only [cond_ne]
  by_cases hl : a.length = b.length
  · rw [if_pos (by omega)]
    refine Eq.trans (eq_loop _ (fun i => (⟨a, b, (i : Int)⟩ : X_ref05_SameInts_4)) a b (0 : Int) (K false) (K true) hl (fun rec i hi => ?_) (fun rec => ?_) fuel64 0 (by omega) (lt_fuel (by omega))) ?_
    · unfold B_ref05_SameInts_4
      simp only [cond_dec, cond_inB]
      rw [if_pos (by omega), if_pos (by omega), if_pos (by omega), Int.toNat_natCast, w_i64 (by omega)]
      simp only [cond_ne]; rfl
    · unfold B_ref05_SameInts_4
      simp only [cond_dec]
      rw [if_neg (by omega)]
    · simp only [List.drop_zero]
      by_cases hc : a = b <;> simp [hc]
  · rw [if_neg (by omega), decide_eq_false (fun hc => hl (by rw [hc]))]

theorem ref01_Same_eq (a b : List (Int)) (K : Bool → Option R) (h : a.length ≤ 9223372036854775807) : p_ref01_Same a b K = K (decide (a = b)) := by
  unfold p_ref01_Same fuel_ref01_Same_4
  simp only [cond_ne]
  by_cases hl : a.length = b.length
  · rw [if_pos (by omega)]
    refine Eq.trans (eq_loop _ (fun i => (⟨a, b, (i : Int)⟩ : X_ref01_Same_4)) a b (0 : Int) (K false) (K true) hl (fun rec i hi => ?_) (fun rec => ?_) fuel64 0 (by omega) (lt_fuel (by omega))) ?_
    · unfold B_ref01_Same_4
      simp only [cond_dec, cond_inB]
      rw [if_pos (by omega), if_pos (by omega), if_pos (by omega), Int.toNat_natCast, w_i64 (by omega)]
      simp only [cond_ne]; rfl
    · unfold B_ref01_Same_4
      simp only [cond_dec]
      rw [if_neg (by omega)]
    · simp only [List.drop_zero]
      by_cases hc : a = b <;> simp [hc]
  · rw [if_neg (by omega), decide_eq_false (fun hc => hl (by rw [hc]))]

theorem load_instrs_1_eq (a b : (Int) × (Int) × (Int) × (Int) × (List (Int)) × Unit) (K : Bool → Option R) (h : a.2.2.2.2.1.length ≤ 9223372036854775807) : p_load_instrs_1 a b K = K (decide (a = b)) := by
  unfold p_load_instrs_1
  obtain ⟨a1, a2, a3, a4, a5, ⟨⟩⟩ := a
  obtain ⟨b1, b2, b3, b4, b5, ⟨⟩⟩ := b
  simp only [cond_eq, cond_dec, slices_EqualInt_eq _ _ _ h]
  by_cases h1 : a1 = b1 <;> by_cases h2 : a2 = b2 <;> by_cases h3 : a3 = b3 <;> by_cases h4 : a4 = b4 <;> by_cases h5 : a5 = b5 <;> simp [h1, h2, h3, h4, h5]

theorem ref06_Same_eq (a b : (Int) × (Int) × (Int) × (Int) × (List (Int)) × Unit) (K : Bool → Option R) (h : a.2.2.2.2.1.length ≤ 9223372036854775807) : p_ref06_Same a b K = K (decide (a = b)) := by
  unfold p_ref06_Same
  obtain ⟨a1, a2, a3, a4, a5, ⟨⟩⟩ := a
  obtain ⟨b1, b2, b3, b4, b5, ⟨⟩⟩ := b
  simp only [cond_eq, cond_dec, ref05_SameInts_eq _ _ _ h]
  by_cases h1 : a1 = b1 <;> by_cases h2 : a2 = b2 <;> by_cases h3 : a3 = b3 <;> by_cases h4 : a4 = b4 <;> by_cases h5 : a5 = b5 <;> simp [h1, h2, h3, h4, h5]

theorem slices_EqualFunc_Instrg55_eq (a b : List ((Int) × (Int) × (Int) × (Int) × (List (Int)) × Unit)) (K : Bool → Option R) (h : a.length ≤ 9223372036854775807) (ha : ∀ y ∈ a, y.2.2.2.2.1.length ≤ 9223372036854775807) : p_slices_EqualFunc_Instrg55 a b K = K (decide (a = b)) := by
  unfold p_slices_EqualFunc_Instrg55 fuel_slices_EqualFunc_Instrg55_4
  simp only [cond_ne]
  by_cases hl : a.length = b.length
  · rw [if_pos (by omega)]
    refine Eq.trans (eq_loop _ (fun i => (⟨b, a, (a.length : Int), (i : Int)⟩ : X_slices_EqualFunc_Instrg55_4)) a b ((0 : Int), ((0 : Int), ((0 : Int), ((0 : Int), (([] : List (Int)), ()))))) (K false) (K true) hl (fun rec i hi => ?_) (fun rec => ?_) fuel64 0 (by omega) (lt_fuel (by omega))) ?_
    · unfold B_slices_EqualFunc_Instrg55_4
      simp only [cond_dec, cond_inB]
      rw [if_pos (by omega), if_pos (by omega), if_pos (by omega), Int.toNat_natCast, w_i64 (by omega)]
      rw [load_instrs_1_eq _ _ _ (ha _ (getD_mem hi))]
      simp only [cond_not, cond_dec]; rfl
    · unfold B_slices_EqualFunc_Instrg55_4
      simp only [cond_dec]
      rw [if_neg (by omega)]
    · simp only [List.drop_zero]
      by_cases hc : a = b <;> simp [hc]
  · rw [if_neg (by omega), decide_eq_false (fun hc => hl (by rw [hc]))]

theorem ref06_SameAll_eq (a b : List ((Int) × (Int) × (Int) × (Int) × (List (Int)) × Unit)) (K : Bool → Option R) (h : a.length ≤ 9223372036854775807) (ha : ∀ y ∈ a, y.2.2.2.2.1.length ≤ 9223372036854775807) : p_ref06_SameAll a b K = K (decide (a = b)) := by
  unfold p_ref06_SameAll fuel_ref06_SameAll_4
  simp only [cond_ne]
  by_cases hl : a.length = b.length
  · rw [if_pos (by omega)]
    refine Eq.trans (eq_loop _ (fun i => (⟨a, b, (i : Int)⟩ : X_ref06_SameAll_4)) a b ((0 : Int), ((0 : Int), ((0 : Int), ((0 : Int), (([] : List (Int)), ()))))) (K false) (K true) hl (fun rec i hi => ?_) (fun rec => ?_) fuel64 0 (by omega) (lt_fuel (by omega))) ?_
    · unfold B_ref06_SameAll_4
      simp only [cond_dec, cond_inB]
      rw [if_pos (by omega), if_pos (by omega), if_pos (by omega), Int.toNat_natCast, w_i64 (by omega)]
      rw [ref06_Same_eq _ _ _ (ha _ (getD_mem hi))]
      simp only [cond_not, cond_dec]; rfl
    · unfold B_ref06_SameAll_4
      simp only [cond_dec]
      rw [if_neg (by omega)]
    · simp only [List.drop_zero]
      by_cases hc : a = b <;> simp [hc]
  · rw [if_neg (by omega), decide_eq_false (fun hc => hl (by rw [hc]))]

abbrev okB (a : List ((Int) × (Int) × (Int) × (Int) × (List (Int)) × Unit)) : Prop := a.length ≤ 9223372036854775807 ∧ ∀ y ∈ a, y.2.2.2.2.1.length ≤ 9223372036854775807
theorem load_instrs_eq (a b : List ((Int) × (Int) × (Int) × (Int) × (List (Int)) × Unit)) (K : Bool → Option R) (h : okB a) : p_load_instrs a b K = K (decide (a = b)) := by
  unfold p_load_instrs
  rw [slices_EqualFunc_Instrg55_eq _ _ _ h.1 h.2]

theorem load_Same_1_eq (a b : (List (Int)) × (List (Int)) × Unit) (K : Bool → Option R) (h : a.1.length ≤ 9223372036854775807 ∧ a.2.1.length ≤ 9223372036854775807) : p_load_Same_1 a b K = K (decide (a = b)) := by
  unfold p_load_Same_1
  obtain ⟨a1, a2, ⟨⟩⟩ := a
  obtain ⟨b1, b2, ⟨⟩⟩ := b
  simp only [cond_eq, cond_dec, slices_EqualInt_eq _ _ _ h.1, slices_EqualInt_eq _ _ _ h.2]
  by_cases h1 : a1 = b1 <;> by_cases h2 : a2 = b2 <;> simp [h1, h2]

theorem ref05_Same_eq (a b : (List (Int)) × (List (Int)) × Unit) (K : Bool → Option R) (h : a.1.length ≤ 9223372036854775807 ∧ a.2.1.length ≤ 9223372036854775807) : p_ref05_Same a b K = K (decide (a = b)) := by
  unfold p_ref05_Same
  obtain ⟨a1, a2, ⟨⟩⟩ := a
  obtain ⟨b1, b2, ⟨⟩⟩ := b
  simp only [cond_eq, cond_dec, ref05_SameInts_eq _ _ _ h.1, ref05_SameInts_eq _ _ _ h.2]
  by_cases h1 : a1 = b1 <;> by_cases h2 : a2 = b2 <;> simp [h1, h2]

theorem load_Same_2_eq (a b : (Int) × It1) (K : Bool → Option R) (h : a.2.1.length ≤ 9223372036854775807 ∧ okB a.2.2.1) : p_load_Same_2 a b K = K (decide (a = b)) := by
  unfold p_load_Same_2
  obtain ⟨a1, a2, a3, ⟨⟩⟩ := a
  obtain ⟨b1, b2, b3, ⟨⟩⟩ := b
  simp only [cond_eq, cond_dec, slices_EqualInt_eq _ _ _ h.1, load_instrs_eq _ _ _ h.2]
  by_cases h1 : a1 = b1 <;> by_cases h2 : a2 = b2 <;> by_cases h3 : a3 = b3 <;> simp [h1, h2, h3]

theorem load_Same_3_eq (a b : (Int) × It2) (K : Bool → Option R) (h : okB a.2.2.1) : p_load_Same_3 a b K = K (decide (a = b)) := by
  unfold p_load_Same_3
  obtain ⟨a1, a2, a3, ⟨⟩⟩ := a
  obtain ⟨b1, b2, b3, ⟨⟩⟩ := b
  simp only [cond_eq, cond_dec, load_instrs_eq _ _ _ h]
  by_cases h1 : a1 = b1 <;> by_cases h2 : a2 = b2 <;> by_cases h3 : a3 = b3 <;> simp [h1, h2, h3]

theorem load_Same_4_eq (a b : (Int) × It3) (K : Bool → Option R) (h : okB a.2.1 ∧ a.2.2.1.length ≤ 9223372036854775807) : p_load_Same_4 a b K = K (decide (a = b)) := by
  unfold p_load_Same_4
  obtain ⟨a1, a2, a3, ⟨⟩⟩ := a
  obtain ⟨b1, b2, b3, ⟨⟩⟩ := b
  simp only [cond_eq, cond_dec, load_instrs_eq _ _ _ h.1, slices_EqualInt_eq _ _ _ h.2]
  by_cases h1 : a1 = b1 <;> by_cases h2 : a2 = b2 <;> by_cases h3 : a3 = b3 <;> simp [h1, h2, h3]

theorem bytes_Equal_eq (a b : List Int) (K : Bool → Option R) (ha : byL a) (hb : byL b) : p_bytes_Equal a b K = K (decide (a = b)) := by
  unfold p_bytes_Equal
  dsimp only
  by_cases h : a = b
  · subst h; simp
  · have : u8s a ≠ u8s b := fun hc => h (u8s_inj ha hb hc)
    rw [decide_eq_false h, show (u8s a == u8s b) = false from by simpa using this]

theorem load_Same_5_eq (a b : (Int) × It3) (K : Bool → Option R) (h : okB a.2.1) (ha : byL a.2.2.1) (hb : byL b.2.2.1) : p_load_Same_5 a b K = K (decide (a = b)) := by
  unfold p_load_Same_5
  obtain ⟨a1, a2, a3, ⟨⟩⟩ := a
  obtain ⟨b1, b2, b3, ⟨⟩⟩ := b
  simp only [cond_eq, cond_dec, load_instrs_eq _ _ _ h, bytes_Equal_eq _ _ _ ha hb]
  by_cases h1 : a1 = b1 <;> by_cases h2 : a2 = b2 <;> by_cases h3 : a3 = b3 <;> simp [h1, h2, h3]

theorem load_Same_6_eq (a b : (List UInt8) × (List (Int)) × Unit) (K : Bool → Option R) (ha : byL a.2.1) (hb : byL b.2.1) : p_load_Same_6 a b K = K (decide (a = b)) := by
  unfold p_load_Same_6
  obtain ⟨a1, a2, ⟨⟩⟩ := a
  obtain ⟨b1, b2, ⟨⟩⟩ := b
  simp only [cond_eq, cond_dec, bytes_Equal_eq _ _ _ ha hb]
  by_cases h1 : a1 = b1 <;> by_cases h2 : a2 = b2 <;> simp [h1, h2]

theorem eq_Limits (a b : (Int) × (Bool) × (Int) × Unit) : ((a.1 == b.1) && ((a.2.1 == b.2.1) && ((a.2.2.1 == b.2.2.1) && true))) = decide (a = b) := by
  obtain ⟨a0, a1, a2, ⟨⟩⟩ := a
  obtain ⟨b0, b1, b2, ⟨⟩⟩ := b
  rw [Bool.eq_iff_iff]
  simp [and_assoc]

theorem eq_Export (a b : (List UInt8) × (Int) × (Int) × Unit) : ((a.1 == b.1) && ((a.2.1 == b.2.1) && ((a.2.2.1 == b.2.2.1) && true))) = decide (a = b) := by
  obtain ⟨a0, a1, a2, ⟨⟩⟩ := a
  obtain ⟨b0, b1, b2, ⟨⟩⟩ := b
  rw [Bool.eq_iff_iff]
  simp [and_assoc]

theorem eq_Import (a b : (List UInt8) × It0) : ((a.1 == b.1) && ((a.2.1 == b.2.1) && ((a.2.2.1 == b.2.2.1) && ((a.2.2.2.1 == b.2.2.2.1) && (((a.2.2.2.2.1.1 == b.2.2.2.2.1.1) && ((a.2.2.2.2.1.2.1 == b.2.2.2.2.1.2.1) && ((a.2.2.2.2.1.2.2.1 == b.2.2.2.2.1.2.2.1) && true))) && ((a.2.2.2.2.2.1 == b.2.2.2.2.2.1) && true)))))) = decide (a = b) := by
  obtain ⟨a0, a1, a2, a3, ⟨a40, a41, a42, ⟨⟩⟩, a5, ⟨⟩⟩ := a
  obtain ⟨b0, b1, b2, b3, ⟨b40, b41, b42, ⟨⟩⟩, b5, ⟨⟩⟩ := b
  rw [Bool.eq_iff_iff]
  simp [and_assoc]

theorem slices_Equal_Import_eq (a b : List ((List UInt8) × It0)) (K : Bool → Option R) (h : a.length ≤ 9223372036854775807) : p_slices_Equal_Import a b K = K (decide (a = b)) := by
  unfold p_slices_Equal_Import fuel_slices_Equal_Import_4
  simp only [cond_ne]
  by_cases hl : a.length = b.length
  · rw [if_pos (by omega)]
    refine Eq.trans (eq_loop _ (fun i => (⟨a, b, (a.length : Int), (i : Int)⟩ : X_slices_Equal_Import_4)) a b (([] : List UInt8), (([] : List UInt8), ((0 : Int), ((0 : Int), (((0 : Int), (false, ((0 : Int), ()))), (false, ())))))) (K false) (K true) hl (fun rec i hi => ?_) (fun rec => ?_) fuel64 0 (by omega) (lt_fuel (by omega))) ?_
    · unfold B_slices_Equal_Import_4
      simp only [cond_dec, cond_inB]
      rw [if_pos (by omega), if_pos (by omega), if_pos (by omega), Int.toNat_natCast, w_i64 (by omega)]
      rw [eq_Import]
      simp only [cond_not, cond_dec]; rfl
    · unfold B_slices_Equal_Import_4
      simp only [cond_dec]
      rw [if_neg (by omega)]
    · simp only [List.drop_zero]
      by_cases hc : a = b <;> simp [hc]
  · rw [if_neg (by omega), decide_eq_false (fun hc => hl (by rw [hc]))]

theorem slices_Equal_Limits_eq (a b : List ((Int) × (Bool) × (Int) × Unit)) (K : Bool → Option R) (h : a.length ≤ 9223372036854775807) : p_slices_Equal_Limits a b K = K (decide (a = b)) := by
  unfold p_slices_Equal_Limits fuel_slices_Equal_Limits_4
  simp only [cond_ne]
  by_cases hl : a.length = b.length
  · rw [if_pos (by omega)]
    refine Eq.trans (eq_loop _ (fun i => (⟨a, b, (a.length : Int), (i : Int)⟩ : X_slices_Equal_Limits_4)) a b ((0 : Int), (false, ((0 : Int), ()))) (K false) (K true) hl (fun rec i hi => ?_) (fun rec => ?_) fuel64 0 (by omega) (lt_fuel (by omega))) ?_
    · unfold B_slices_Equal_Limits_4
      simp only [cond_dec, cond_inB]
      rw [if_pos (by omega), if_pos (by omega), if_pos (by omega), Int.toNat_natCast, w_i64 (by omega)]
      rw [eq_Limits]
      simp only [cond_not, cond_dec]; rfl
    · unfold B_slices_Equal_Limits_4
      simp only [cond_dec]
      rw [if_neg (by omega)]
    · simp only [List.drop_zero]
      by_cases hc : a = b <;> simp [hc]
  · rw [if_neg (by omega), decide_eq_false (fun hc => hl (by rw [hc]))]

theorem slices_Equal_Export_eq (a b : List ((List UInt8) × (Int) × (Int) × Unit)) (K : Bool → Option R) (h : a.length ≤ 9223372036854775807) : p_slices_Equal_Export a b K = K (decide (a = b)) := by
  unfold p_slices_Equal_Export fuel_slices_Equal_Export_4
  simp only [cond_ne]
  by_cases hl : a.length = b.length
  · rw [if_pos (by omega)]
    refine Eq.trans (eq_loop _ (fun i => (⟨a, b, (a.length : Int), (i : Int)⟩ : X_slices_Equal_Export_4)) a b (([] : List UInt8), ((0 : Int), ((0 : Int), ()))) (K false) (K true) hl (fun rec i hi => ?_) (fun rec => ?_) fuel64 0 (by omega) (lt_fuel (by omega))) ?_
    · unfold B_slices_Equal_Export_4
      simp only [cond_dec, cond_inB]
      rw [if_pos (by omega), if_pos (by omega), if_pos (by omega), Int.toNat_natCast, w_i64 (by omega)]
      rw [eq_Export]
      simp only [cond_not, cond_dec]; rfl
    · unfold B_slices_Equal_Export_4
      simp only [cond_dec]
      rw [if_neg (by omega)]
    · simp only [List.drop_zero]
      by_cases hc : a = b <;> simp [hc]
  · rw [if_neg (by omega), decide_eq_false (fun hc => hl (by rw [hc]))]

theorem slices_EqualFunc_FuncTypeg20_eq (a b : List ((List (Int)) × (List (Int)) × Unit)) (K : Bool → Option R) (h : a.length ≤ 9223372036854775807) (ha : ∀ y ∈ a, y.1.length ≤ 9223372036854775807 ∧ y.2.1.length ≤ 9223372036854775807) : p_slices_EqualFunc_FuncTypeg20 a b K = K (decide (a = b)) := by
  unfold p_slices_EqualFunc_FuncTypeg20 fuel_slices_EqualFunc_FuncTypeg20_4
  simp only [cond_ne]
  by_cases hl : a.length = b.length
  · rw [if_pos (by omega)]
    refine Eq.trans (eq_loop _ (fun i => (⟨b, a, (a.length : Int), (i : Int)⟩ : X_slices_EqualFunc_FuncTypeg20_4)) a b (([] : List (Int)), (([] : List (Int)), ())) (K false) (K true) hl (fun rec i hi => ?_) (fun rec => ?_) fuel64 0 (by omega) (lt_fuel (by omega))) ?_
    · unfold B_slices_EqualFunc_FuncTypeg20_4
      simp only [cond_dec, cond_inB]
      rw [if_pos (by omega), if_pos (by omega), if_pos (by omega), Int.toNat_natCast, w_i64 (by omega)]
      rw [load_Same_1_eq _ _ _ (ha _ (getD_mem hi))]
      simp only [cond_not, cond_dec]; rfl
    · unfold B_slices_EqualFunc_FuncTypeg20_4
      simp only [cond_dec]
      rw [if_neg (by omega)]
    · simp only [List.drop_zero]
      by_cases hc : a = b <;> simp [hc]
  · rw [if_neg (by omega), decide_eq_false (fun hc => hl (by rw [hc]))]

theorem slices_EqualFunc_Funcg24_eq (a b : List ((Int) × It1)) (K : Bool → Option R) (h : a.length ≤ 9223372036854775807) (ha : ∀ y ∈ a, y.2.1.length ≤ 9223372036854775807 ∧ okB y.2.2.1) : p_slices_EqualFunc_Funcg24 a b K = K (decide (a = b)) := by
  unfold p_slices_EqualFunc_Funcg24 fuel_slices_EqualFunc_Funcg24_4
  simp only [cond_ne]
  by_cases hl : a.length = b.length
  · rw [if_pos (by omega)]
    refine Eq.trans (eq_loop _ (fun i => (⟨b, a, (a.length : Int), (i : Int)⟩ : X_slices_EqualFunc_Funcg24_4)) a b ((0 : Int), (([] : List (Int)), (([] : List ((Int) × (Int) × (Int) × (Int) × (List (Int)) × Unit)), ()))) (K false) (K true) hl (fun rec i hi => ?_) (fun rec => ?_) fuel64 0 (by omega) (lt_fuel (by omega))) ?_
    · unfold B_slices_EqualFunc_Funcg24_4
      simp only [cond_dec, cond_inB]
      rw [if_pos (by omega), if_pos (by omega), if_pos (by omega), Int.toNat_natCast, w_i64 (by omega)]
      rw [load_Same_2_eq _ _ _ (ha _ (getD_mem hi))]
      simp only [cond_not, cond_dec]; rfl
    · unfold B_slices_EqualFunc_Funcg24_4
      simp only [cond_dec]
      rw [if_neg (by omega)]
    · simp only [List.drop_zero]
      by_cases hc : a = b <;> simp [hc]
  · rw [if_neg (by omega), decide_eq_false (fun hc => hl (by rw [hc]))]

theorem slices_EqualFunc_Globalg28_eq (a b : List ((Int) × It2)) (K : Bool → Option R) (h : a.length ≤ 9223372036854775807) (ha : ∀ y ∈ a, okB y.2.2.1) : p_slices_EqualFunc_Globalg28 a b K = K (decide (a = b)) := by
  unfold p_slices_EqualFunc_Globalg28 fuel_slices_EqualFunc_Globalg28_4
  simp only [cond_ne]
  by_cases hl : a.length = b.length
  · rw [if_pos (by omega)]
    refine Eq.trans (eq_loop _ (fun i => (⟨b, a, (a.length : Int), (i : Int)⟩ : X_slices_EqualFunc_Globalg28_4)) a b ((0 : Int), (false, (([] : List ((Int) × (Int) × (Int) × (Int) × (List (Int)) × Unit)), ()))) (K false) (K true) hl (fun rec i hi => ?_) (fun rec => ?_) fuel64 0 (by omega) (lt_fuel (by omega))) ?_
    · unfold B_slices_EqualFunc_Globalg28_4
      simp only [cond_dec, cond_inB]
      rw [if_pos (by omega), if_pos (by omega), if_pos (by omega), Int.toNat_natCast, w_i64 (by omega)]
      rw [load_Same_3_eq _ _ _ (ha _ (getD_mem hi))]
      simp only [cond_not, cond_dec]; rfl
    · unfold B_slices_EqualFunc_Globalg28_4
      simp only [cond_dec]
      rw [if_neg (by omega)]
    · simp only [List.drop_zero]
      by_cases hc : a = b <;> simp [hc]
  · rw [if_neg (by omega), decide_eq_false (fun hc => hl (by rw [hc]))]

theorem slices_EqualFunc_Elemg31_eq (a b : List ((Int) × It3)) (K : Bool → Option R) (h : a.length ≤ 9223372036854775807) (ha : ∀ y ∈ a, okB y.2.1 ∧ y.2.2.1.length ≤ 9223372036854775807) : p_slices_EqualFunc_Elemg31 a b K = K (decide (a = b)) := by
  unfold p_slices_EqualFunc_Elemg31 fuel_slices_EqualFunc_Elemg31_4
  simp only [cond_ne]
  by_cases hl : a.length = b.length
  · rw [if_pos (by omega)]
    refine Eq.trans (eq_loop _ (fun i => (⟨b, a, (a.length : Int), (i : Int)⟩ : X_slices_EqualFunc_Elemg31_4)) a b ((0 : Int), (([] : List ((Int) × (Int) × (Int) × (Int) × (List (Int)) × Unit)), (([] : List (Int)), ()))) (K false) (K true) hl (fun rec i hi => ?_) (fun rec => ?_) fuel64 0 (by omega) (lt_fuel (by omega))) ?_
    · unfold B_slices_EqualFunc_Elemg31_4
      simp only [cond_dec, cond_inB]
      rw [if_pos (by omega), if_pos (by omega), if_pos (by omega), Int.toNat_natCast, w_i64 (by omega)]
      rw [load_Same_4_eq _ _ _ (ha _ (getD_mem hi))]
      simp only [cond_not, cond_dec]; rfl
    · unfold B_slices_EqualFunc_Elemg31_4
      simp only [cond_dec]
      rw [if_neg (by omega)]
    · simp only [List.drop_zero]
      by_cases hc : a = b <;> simp [hc]
  · rw [if_neg (by omega), decide_eq_false (fun hc => hl (by rw [hc]))]

theorem slices_EqualFunc_Datag33_eq (a b : List ((Int) × It3)) (K : Bool → Option R) (h : a.length ≤ 9223372036854775807) (ha : ∀ y ∈ a, okB y.2.1 ∧ byL y.2.2.1) (hb : ∀ y ∈ b, byL y.2.2.1) : p_slices_EqualFunc_Datag33 a b K = K (decide (a = b)) := by
  unfold p_slices_EqualFunc_Datag33 fuel_slices_EqualFunc_Datag33_4
  simp only [cond_ne]
  by_cases hl : a.length = b.length
  · rw [if_pos (by omega)]
    refine Eq.trans (eq_loop _ (fun i => (⟨b, a, (a.length : Int), (i : Int)⟩ : X_slices_EqualFunc_Datag33_4)) a b ((0 : Int), (([] : List ((Int) × (Int) × (Int) × (Int) × (List (Int)) × Unit)), (([] : List (Int)), ()))) (K false) (K true) hl (fun rec i hi => ?_) (fun rec => ?_) fuel64 0 (by omega) (lt_fuel (by omega))) ?_
    · unfold B_slices_EqualFunc_Datag33_4
      simp only [cond_dec, cond_inB]
      rw [if_pos (by omega), if_pos (by omega), if_pos (by omega), Int.toNat_natCast, w_i64 (by omega)]
      rw [load_Same_5_eq _ _ _ (ha _ (getD_mem hi)).1 (ha _ (getD_mem hi)).2 (hb _ (getD_mem (by omega)))]
      simp only [cond_not, cond_dec]; rfl
    · unfold B_slices_EqualFunc_Datag33_4
      simp only [cond_dec]
      rw [if_neg (by omega)]
    · simp only [List.drop_zero]
      by_cases hc : a = b <;> simp [hc]
  · rw [if_neg (by omega), decide_eq_false (fun hc => hl (by rw [hc]))]

theorem slices_EqualFunc_Customg36_eq (a b : List ((List UInt8) × (List (Int)) × Unit)) (K : Bool → Option R) (h : a.length ≤ 9223372036854775807) (ha : ∀ y ∈ a, byL y.2.1) (hb : ∀ y ∈ b, byL y.2.1) : p_slices_EqualFunc_Customg36 a b K = K (decide (a = b)) := by
  unfold p_slices_EqualFunc_Customg36 fuel_slices_EqualFunc_Customg36_4
  simp only [cond_ne]
  by_cases hl : a.length = b.length
  · rw [if_pos (by omega)]
    refine Eq.trans (eq_loop _ (fun i => (⟨b, a, (a.length : Int), (i : Int)⟩ : X_slices_EqualFunc_Customg36_4)) a b (([] : List UInt8), (([] : List (Int)), ())) (K false) (K true) hl (fun rec i hi => ?_) (fun rec => ?_) fuel64 0 (by omega) (lt_fuel (by omega))) ?_
    · unfold B_slices_EqualFunc_Customg36_4
      simp only [cond_dec, cond_inB]
      rw [if_pos (by omega), if_pos (by omega), if_pos (by omega), Int.toNat_natCast, w_i64 (by omega)]
      rw [load_Same_6_eq _ _ _ (ha _ (getD_mem hi)) (hb _ (getD_mem (by omega)))]
      simp only [cond_not, cond_dec]; rfl
    · unfold B_slices_EqualFunc_Customg36_4
      simp only [cond_dec]
      rw [if_neg (by omega)]
    · simp only [List.drop_zero]
      by_cases hc : a = b <;> simp [hc]
  · rw [if_neg (by omega), decide_eq_false (fun hc => hl (by rw [hc]))]

end
end Go.Trm.G1
