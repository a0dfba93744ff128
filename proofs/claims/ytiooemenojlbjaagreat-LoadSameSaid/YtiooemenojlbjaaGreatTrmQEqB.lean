import Derived.Test.YtiooemenojlbjaaGreatTrmQEqA
set_option linter.unusedVariables false
set_option linter.unusedSimpArgs false
namespace Go.Trm.G1

/-! Same, of the document's side -/

section
variable {R : Type}

theorem r8_5 (kx : It7 → It7 → Bool → Option R) (m m' : It7) (h : m.1.length ≤ 9223372036854775807) (hl : m.1.length = m'.1.length) (ha : ∀ y ∈ m.1, y.1.length ≤ 9223372036854775807 ∧ y.2.1.length ≤ 9223372036854775807) : ∀ (n i : Nat) (ok : Bool), i ≤ m.1.length → m.1.length - i < n → loopN (B_ref08_Same_5 kx) n ⟨m, m', ok, i⟩ = kx m m' (ok && decide (m.1.drop i = m'.1.drop i)) := by
  refine ok_loop _ (fun i ok => (⟨m, m', ok, (i : Int)⟩ : X_ref08_Same_5)) _ _ (([] : List (Int)), (([] : List (Int)), ())) (fun ok => kx m m' ok) hl (fun rec i ok hi => ?_) (fun rec ok => ?_)
  · unfold B_ref08_Same_5
    simp only [cond_dec]
    rw [if_pos (by omega)]
    cases ok with
    | false =>
      simp only [cond_false, Bool.false_and]
      rw [w_i64 (by omega)]; rfl
    | true =>
      simp only [cond_true, cond_inB, Int.toNat_natCast, Bool.true_and]
      rw [if_pos (by omega), if_pos (by omega), w_i64 (by omega)]
      rw [ref05_Same_eq _ _ _ (ha _ (getD_mem hi))]; rfl
  · unfold B_ref08_Same_5
    simp only [cond_dec]
    rw [if_neg (by omega)]

theorem r8_9 (kx : It7 → It7 → Bool → Option R) (m m' : It7) (h : m.2.1.length ≤ 9223372036854775807) (hl : m.2.1.length = m'.2.1.length) : ∀ (n i : Nat) (ok : Bool), i ≤ m.2.1.length → m.2.1.length - i < n → loopN (B_ref08_Same_9 kx) n ⟨m, m', ok, i⟩ = kx m m' (ok && decide (m.2.1.drop i = m'.2.1.drop i)) := by
  refine ok_loop _ (fun i ok => (⟨m, m', ok, (i : Int)⟩ : X_ref08_Same_9)) _ _ (([] : List UInt8), (([] : List UInt8), ((0 : Int), ((0 : Int), (((0 : Int), (false, ((0 : Int), ()))), (false, ())))))) (fun ok => kx m m' ok) hl (fun rec i ok hi => ?_) (fun rec ok => ?_)
  · unfold B_ref08_Same_9
    simp only [cond_dec]
    rw [if_pos (by omega)]
    cases ok with
    | false =>
      simp only [cond_false, Bool.false_and]
      rw [w_i64 (by omega)]; rfl
    | true =>
      simp only [cond_true, cond_inB, Int.toNat_natCast, Bool.true_and]
      rw [if_pos (by omega), if_pos (by omega), w_i64 (by omega)]
      rw [eq_Import]; rfl
  · unfold B_ref08_Same_9
    simp only [cond_dec]
    rw [if_neg (by omega)]

theorem r8_13 (kx : It7 → It7 → Bool → Option R) (m m' : It7) (h : m.2.2.1.length ≤ 9223372036854775807) (hl : m.2.2.1.length = m'.2.2.1.length) (ha : ∀ y ∈ m.2.2.1, y.2.1.length ≤ 9223372036854775807 ∧ okB y.2.2.1) : ∀ (n i : Nat) (ok : Bool), i ≤ m.2.2.1.length → m.2.2.1.length - i < n → loopN (B_ref08_Same_13 kx) n ⟨m, m', ok, i⟩ = kx m m' (ok && decide (m.2.2.1.drop i = m'.2.2.1.drop i)) := by
  refine ok_loop _ (fun i ok => (⟨m, m', ok, (i : Int)⟩ : X_ref08_Same_13)) _ _ ((0 : Int), (([] : List (Int)), (([] : List ((Int) × (Int) × (Int) × (Int) × (List (Int)) × Unit)), ()))) (fun ok => kx m m' ok) hl (fun rec i ok hi => ?_) (fun rec ok => ?_)
  · unfold B_ref08_Same_13
    simp only [cond_dec]
    rw [if_pos (by omega)]
    cases ok with
    | false =>
      simp only [cond_false, Bool.false_and]
      rw [w_i64 (by omega)]; rfl
    | true =>
      simp only [cond_true, cond_inB, Int.toNat_natCast, Bool.true_and]
      rw [if_pos (by omega), if_pos (by omega), w_i64 (by omega)]
      generalize hx : m.2.2.1.getD i _ = x
      generalize hy : m'.2.2.1.getD i _ = y
      have hax := ha _ (getD_mem (d := ((0 : Int), (([] : List (Int)), (([] : List ((Int) × (Int) × (Int) × (Int) × (List (Int)) × Unit)), ())))) hi)
      rw [hx] at hax
      obtain ⟨a1, a2, a3, ⟨⟩⟩ := x
      obtain ⟨b1, b2, b3, ⟨⟩⟩ := y
      simp only [cond_eq, cond_dec, cond_inB, ref05_SameInts_eq _ _ _ hax.1, ref06_SameAll_eq _ _ _ hax.2.1 hax.2.2]
      have hi' : (0 : Int) ≤ (i : Int) ∧ (i : Int) < m.2.2.1.length := by omega
      have hi2 : (0 : Int) ≤ (i : Int) ∧ (i : Int) < m'.2.2.1.length := by omega
      have hw : IntKind.i64.wrap ((i : Int) + 1) = ((i + 1 : Nat) : Int) := w_i64 (by omega)
      simp only [hi', hi2, hw, and_self, if_true]
      by_cases h1 : a1 = b1 <;> by_cases h2 : a2 = b2 <;> by_cases h3 : a3 = b3 <;> simp [h1, h2, h3]
  · unfold B_ref08_Same_13
    simp only [cond_dec]
    rw [if_neg (by omega)]

theorem r8_17 (kx : It7 → It7 → Bool → Option R) (m m' : It7) (h : m.2.2.2.1.length ≤ 9223372036854775807) (hl : m.2.2.2.1.length = m'.2.2.2.1.length) : ∀ (n i : Nat) (ok : Bool), i ≤ m.2.2.2.1.length → m.2.2.2.1.length - i < n → loopN (B_ref08_Same_17 kx) n ⟨m, m', ok, i⟩ = kx m m' (ok && decide (m.2.2.2.1.drop i = m'.2.2.2.1.drop i)) := by
  refine ok_loop _ (fun i ok => (⟨m, m', ok, (i : Int)⟩ : X_ref08_Same_17)) _ _ ((0 : Int), (false, ((0 : Int), ()))) (fun ok => kx m m' ok) hl (fun rec i ok hi => ?_) (fun rec ok => ?_)
  · unfold B_ref08_Same_17
    simp only [cond_dec]
    rw [if_pos (by omega)]
    cases ok with
    | false =>
      simp only [cond_false, Bool.false_and]
      rw [w_i64 (by omega)]; rfl
    | true =>
      simp only [cond_true, cond_inB, Int.toNat_natCast, Bool.true_and]
      rw [if_pos (by omega), if_pos (by omega), w_i64 (by omega)]
      rw [eq_Limits]; rfl
  · unfold B_ref08_Same_17
    simp only [cond_dec]
    rw [if_neg (by omega)]

theorem r8_21 (kx : It7 → It7 → Bool → Option R) (m m' : It7) (h : m.2.2.2.2.1.length ≤ 9223372036854775807) (hl : m.2.2.2.2.1.length = m'.2.2.2.2.1.length) : ∀ (n i : Nat) (ok : Bool), i ≤ m.2.2.2.2.1.length → m.2.2.2.2.1.length - i < n → loopN (B_ref08_Same_21 kx) n ⟨m, m', ok, i⟩ = kx m m' (ok && decide (m.2.2.2.2.1.drop i = m'.2.2.2.2.1.drop i)) := by
  refine ok_loop _ (fun i ok => (⟨m, m', ok, (i : Int)⟩ : X_ref08_Same_21)) _ _ ((0 : Int), (false, ((0 : Int), ()))) (fun ok => kx m m' ok) hl (fun rec i ok hi => ?_) (fun rec ok => ?_)
  · unfold B_ref08_Same_21
    simp only [cond_dec]
    rw [if_pos (by omega)]
    cases ok with
    | false =>
      simp only [cond_false, Bool.false_and]
      rw [w_i64 (by omega)]; rfl
    | true =>
      simp only [cond_true, cond_inB, Int.toNat_natCast, Bool.true_and]
      rw [if_pos (by omega), if_pos (by omega), w_i64 (by omega)]
      rw [eq_Limits]; rfl
  · unfold B_ref08_Same_21
    simp only [cond_dec]
    rw [if_neg (by omega)]

theorem r8_25 (kx : It7 → It7 → Bool → Option R) (m m' : It7) (h : m.2.2.2.2.2.1.length ≤ 9223372036854775807) (hl : m.2.2.2.2.2.1.length = m'.2.2.2.2.2.1.length) (ha : ∀ y ∈ m.2.2.2.2.2.1, okB y.2.2.1) : ∀ (n i : Nat) (ok : Bool), i ≤ m.2.2.2.2.2.1.length → m.2.2.2.2.2.1.length - i < n → loopN (B_ref08_Same_25 kx) n ⟨m, m', ok, i⟩ = kx m m' (ok && decide (m.2.2.2.2.2.1.drop i = m'.2.2.2.2.2.1.drop i)) := by
  refine ok_loop _ (fun i ok => (⟨m, m', ok, (i : Int)⟩ : X_ref08_Same_25)) _ _ ((0 : Int), (false, (([] : List ((Int) × (Int) × (Int) × (Int) × (List (Int)) × Unit)), ()))) (fun ok => kx m m' ok) hl (fun rec i ok hi => ?_) (fun rec ok => ?_)
  · unfold B_ref08_Same_25
    simp only [cond_dec]
    rw [if_pos (by omega)]
    cases ok with
    | false =>
      simp only [cond_false, Bool.false_and]
      rw [w_i64 (by omega)]; rfl
    | true =>
      simp only [cond_true, cond_inB, Int.toNat_natCast, Bool.true_and]
      rw [if_pos (by omega), if_pos (by omega), w_i64 (by omega)]
      generalize hx : m.2.2.2.2.2.1.getD i _ = x
      generalize hy : m'.2.2.2.2.2.1.getD i _ = y
      have hax := ha _ (getD_mem (d := ((0 : Int), (false, (([] : List ((Int) × (Int) × (Int) × (Int) × (List (Int)) × Unit)), ())))) hi)
      rw [hx] at hax
      obtain ⟨a1, a2, a3, ⟨⟩⟩ := x
      obtain ⟨b1, b2, b3, ⟨⟩⟩ := y
      simp only [cond_eq, cond_dec, cond_inB, ref06_SameAll_eq _ _ _ hax.1 hax.2]
      have hi' : (0 : Int) ≤ (i : Int) ∧ (i : Int) < m.2.2.2.2.2.1.length := by omega
      have hi2 : (0 : Int) ≤ (i : Int) ∧ (i : Int) < m'.2.2.2.2.2.1.length := by omega
      have hw : IntKind.i64.wrap ((i : Int) + 1) = ((i + 1 : Nat) : Int) := w_i64 (by omega)
      simp only [hi', hi2, hw, and_self, if_true]
      by_cases h1 : a1 = b1 <;> by_cases h2 : a2 = b2 <;> by_cases h3 : a3 = b3 <;> simp [h1, h2, h3]
  · unfold B_ref08_Same_25
    simp only [cond_dec]
    rw [if_neg (by omega)]

theorem r8_29 (kx : It7 → It7 → Bool → Option R) (m m' : It7) (h : m.2.2.2.2.2.2.1.length ≤ 9223372036854775807) (hl : m.2.2.2.2.2.2.1.length = m'.2.2.2.2.2.2.1.length) : ∀ (n i : Nat) (ok : Bool), i ≤ m.2.2.2.2.2.2.1.length → m.2.2.2.2.2.2.1.length - i < n → loopN (B_ref08_Same_29 kx) n ⟨m, m', ok, i⟩ = kx m m' (ok && decide (m.2.2.2.2.2.2.1.drop i = m'.2.2.2.2.2.2.1.drop i)) := by
  refine ok_loop _ (fun i ok => (⟨m, m', ok, (i : Int)⟩ : X_ref08_Same_29)) _ _ (([] : List UInt8), ((0 : Int), ((0 : Int), ()))) (fun ok => kx m m' ok) hl (fun rec i ok hi => ?_) (fun rec ok => ?_)
  · unfold B_ref08_Same_29
    simp only [cond_dec]
    rw [if_pos (by omega)]
    cases ok with
    | false =>
      simp only [cond_false, Bool.false_and]
      rw [w_i64 (by omega)]; rfl
    | true =>
      simp only [cond_true, cond_inB, Int.toNat_natCast, Bool.true_and]
      rw [if_pos (by omega), if_pos (by omega), w_i64 (by omega)]
      rw [eq_Export]; rfl
  · unfold B_ref08_Same_29
    simp only [cond_dec]
    rw [if_neg (by omega)]

theorem r8_33 (kx : It7 → It7 → Bool → Option R) (m m' : It7) (h : m.2.2.2.2.2.2.2.2.1.length ≤ 9223372036854775807) (hl : m.2.2.2.2.2.2.2.2.1.length = m'.2.2.2.2.2.2.2.2.1.length) (ha : ∀ y ∈ m.2.2.2.2.2.2.2.2.1, okB y.2.1 ∧ y.2.2.1.length ≤ 9223372036854775807) : ∀ (n i : Nat) (ok : Bool), i ≤ m.2.2.2.2.2.2.2.2.1.length → m.2.2.2.2.2.2.2.2.1.length - i < n → loopN (B_ref08_Same_33 kx) n ⟨m, m', ok, i⟩ = kx m m' (ok && decide (m.2.2.2.2.2.2.2.2.1.drop i = m'.2.2.2.2.2.2.2.2.1.drop i)) := by
  refine ok_loop _ (fun i ok => (⟨m, m', ok, (i : Int)⟩ : X_ref08_Same_33)) _ _ ((0 : Int), (([] : List ((Int) × (Int) × (Int) × (Int) × (List (Int)) × Unit)), (([] : List (Int)), ()))) (fun ok => kx m m' ok) hl (fun rec i ok hi => ?_) (fun rec ok => ?_)
  · unfold B_ref08_Same_33
    simp only [cond_dec]
    rw [if_pos (by omega)]
    cases ok with
    | false =>
      simp only [cond_false, Bool.false_and]
      rw [w_i64 (by omega)]; rfl
    | true =>
      simp only [cond_true, cond_inB, Int.toNat_natCast, Bool.true_and]
      rw [if_pos (by omega), if_pos (by omega), w_i64 (by omega)]
      generalize hx : m.2.2.2.2.2.2.2.2.1.getD i _ = x
      generalize hy : m'.2.2.2.2.2.2.2.2.1.getD i _ = y
      have hax := ha _ (getD_mem (d := ((0 : Int), (([] : List ((Int) × (Int) × (Int) × (Int) × (List (Int)) × Unit)), (([] : List (Int)), ())))) hi)
      rw [hx] at hax
      obtain ⟨a1, a2, a3, ⟨⟩⟩ := x
      obtain ⟨b1, b2, b3, ⟨⟩⟩ := y
      simp only [cond_eq, cond_dec, cond_inB, ref05_SameInts_eq _ _ _ hax.2, ref06_SameAll_eq _ _ _ hax.1.1 hax.1.2]
      have hi' : (0 : Int) ≤ (i : Int) ∧ (i : Int) < m.2.2.2.2.2.2.2.2.1.length := by omega
      have hi2 : (0 : Int) ≤ (i : Int) ∧ (i : Int) < m'.2.2.2.2.2.2.2.2.1.length := by omega
      have hw : IntKind.i64.wrap ((i : Int) + 1) = ((i + 1 : Nat) : Int) := w_i64 (by omega)
      simp only [hi', hi2, hw, and_self, if_true]
      by_cases h1 : a1 = b1 <;> by_cases h2 : a2 = b2 <;> by_cases h3 : a3 = b3 <;> simp [h1, h2, h3]
  · unfold B_ref08_Same_33
    simp only [cond_dec]
    rw [if_neg (by omega)]

theorem r8_37 (kx : It7 → It7 → Bool → Option R) (m m' : It7) (h : m.2.2.2.2.2.2.2.2.2.2.1.length ≤ 9223372036854775807) (hl : m.2.2.2.2.2.2.2.2.2.2.1.length = m'.2.2.2.2.2.2.2.2.2.2.1.length) (ha : ∀ y ∈ m.2.2.2.2.2.2.2.2.2.2.1, okB y.2.1 ∧ y.2.2.1.length ≤ 9223372036854775807) : ∀ (n i : Nat) (ok : Bool), i ≤ m.2.2.2.2.2.2.2.2.2.2.1.length → m.2.2.2.2.2.2.2.2.2.2.1.length - i < n → loopN (B_ref08_Same_37 kx) n ⟨m, m', ok, i⟩ = kx m m' (ok && decide (m.2.2.2.2.2.2.2.2.2.2.1.drop i = m'.2.2.2.2.2.2.2.2.2.2.1.drop i)) := by
  refine ok_loop _ (fun i ok => (⟨m, m', ok, (i : Int)⟩ : X_ref08_Same_37)) _ _ ((0 : Int), (([] : List ((Int) × (Int) × (Int) × (Int) × (List (Int)) × Unit)), (([] : List (Int)), ()))) (fun ok => kx m m' ok) hl (fun rec i ok hi => ?_) (fun rec ok => ?_)
  · unfold B_ref08_Same_37
    simp only [cond_dec]
    rw [if_pos (by omega)]
    cases ok with
    | false =>
      simp only [cond_false, Bool.false_and]
      rw [w_i64 (by omega)]; rfl
    | true =>
      simp only [cond_true, cond_inB, Int.toNat_natCast, Bool.true_and]
      rw [if_pos (by omega), if_pos (by omega), w_i64 (by omega)]
      generalize hx : m.2.2.2.2.2.2.2.2.2.2.1.getD i _ = x
      generalize hy : m'.2.2.2.2.2.2.2.2.2.2.1.getD i _ = y
      have hax := ha _ (getD_mem (d := ((0 : Int), (([] : List ((Int) × (Int) × (Int) × (Int) × (List (Int)) × Unit)), (([] : List (Int)), ())))) hi)
      rw [hx] at hax
      obtain ⟨a1, a2, a3, ⟨⟩⟩ := x
      obtain ⟨b1, b2, b3, ⟨⟩⟩ := y
      simp only [cond_eq, cond_dec, cond_inB, ref01_Same_eq _ _ _ hax.2, ref06_SameAll_eq _ _ _ hax.1.1 hax.1.2]
      have hi' : (0 : Int) ≤ (i : Int) ∧ (i : Int) < m.2.2.2.2.2.2.2.2.2.2.1.length := by omega
      have hi2 : (0 : Int) ≤ (i : Int) ∧ (i : Int) < m'.2.2.2.2.2.2.2.2.2.2.1.length := by omega
      have hw : IntKind.i64.wrap ((i : Int) + 1) = ((i + 1 : Nat) : Int) := w_i64 (by omega)
      simp only [hi', hi2, hw, and_self, if_true]
      by_cases h1 : a1 = b1 <;> by_cases h2 : a2 = b2 <;> by_cases h3 : a3 = b3 <;> simp [h1, h2, h3]
  · unfold B_ref08_Same_37
    simp only [cond_dec]
    rw [if_neg (by omega)]

theorem r8_41 (kx : Bool → Option R) (m m' : It7) (h : m.2.2.2.2.2.2.2.2.2.2.2.1.length ≤ 9223372036854775807) (hl : m.2.2.2.2.2.2.2.2.2.2.2.1.length = m'.2.2.2.2.2.2.2.2.2.2.2.1.length) (ha : ∀ y ∈ m.2.2.2.2.2.2.2.2.2.2.2.1, y.2.1.length ≤ 9223372036854775807) : ∀ (n i : Nat) (ok : Bool), i ≤ m.2.2.2.2.2.2.2.2.2.2.2.1.length → m.2.2.2.2.2.2.2.2.2.2.2.1.length - i < n → loopN (B_ref08_Same_41 kx) n ⟨m, m', ok, i⟩ = kx (ok && decide (m.2.2.2.2.2.2.2.2.2.2.2.1.drop i = m'.2.2.2.2.2.2.2.2.2.2.2.1.drop i)) := by
  refine ok_loop _ (fun i ok => (⟨m, m', ok, (i : Int)⟩ : X_ref08_Same_41)) _ _ (([] : List UInt8), (([] : List (Int)), ())) (fun ok => kx ok) hl (fun rec i ok hi => ?_) (fun rec ok => ?_)
  · unfold B_ref08_Same_41
    simp only [cond_dec]
    rw [if_pos (by omega)]
    cases ok with
    | false =>
      simp only [cond_false, Bool.false_and]
      rw [w_i64 (by omega)]; rfl
    | true =>
      simp only [cond_true, cond_inB, Int.toNat_natCast, Bool.true_and]
      rw [if_pos (by omega), if_pos (by omega), w_i64 (by omega)]
      generalize hx : m.2.2.2.2.2.2.2.2.2.2.2.1.getD i _ = x
      generalize hy : m'.2.2.2.2.2.2.2.2.2.2.2.1.getD i _ = y
      have hax := ha _ (getD_mem (d := (([] : List UInt8), (([] : List (Int)), ()))) hi)
      rw [hx] at hax
      obtain ⟨a1, a2, ⟨⟩⟩ := x
      obtain ⟨b1, b2, ⟨⟩⟩ := y
      simp only [cond_eq, cond_dec, cond_inB, ref01_Same_eq _ _ _ hax]
      have hi' : (0 : Int) ≤ (i : Int) ∧ (i : Int) < m.2.2.2.2.2.2.2.2.2.2.2.1.length := by omega
      have hi2 : (0 : Int) ≤ (i : Int) ∧ (i : Int) < m'.2.2.2.2.2.2.2.2.2.2.2.1.length := by omega
      have hw : IntKind.i64.wrap ((i : Int) + 1) = ((i + 1 : Nat) : Int) := w_i64 (by omega)
      simp only [hi', hi2, hw, and_self, if_true]
      by_cases h1 : a1 = b1 <;> by_cases h2 : a2 = b2 <;> simp [h1, h2]
  · unfold B_ref08_Same_41
    simp only [cond_dec]
    rw [if_neg (by omega)]

end
end Go.Trm.G1
