import Derived.Test.YtiooemenojlbjaaGreatTrmQEqB
set_option linter.unusedVariables false
set_option linter.unusedSimpArgs false
namespace Go.Trm.G1

/-! Short modules -/

theorem count_loop {X R : Type} (B : (X → Option R) → X → Option R) (f : Nat → X) (N : Nat) (T : Option R) (hstep : ∀ rec i, i < N → B rec (f i) = rec (f (i + 1))) (hend : ∀ rec, B rec (f N) = T) : ∀ (n i : Nat), i ≤ N → N - i < n → loopN B n (f i) = T := by
  intro n
  induction n with
  | zero => intro i _ h; omega
  | succ n ih =>
    intro i hi hn
    rw [loop_succ]
    by_cases h : i = N
    · subst h; exact hend _
    · rw [hstep _ _ (by omega)]
      exact ih (i + 1) (by omega) (by omega)

theorem acc_loop {X R : Type} (B : (X → Option R) → X → Option R) (f : Nat → Int → X) (N : Nat) (kx : Int → Option R) (Good : Int → Prop) (hstep : ∀ rec i n, i < N → Good n → (∃ n', Good n' ∧ B rec (f i n) = rec (f (i + 1) n')) ∨ B rec (f i n) = kx n) (hend : ∀ rec n, B rec (f N n) = kx n) :
    ∀ (m i : Nat) (n : Int), i ≤ N → N - i < m → Good n → ∃ n', Good n' ∧ loopN B m (f i n) = kx n' := by
  intro m
  induction m with
  | zero => intro i n _ h; omega
  | succ m ih =>
    intro i n hi hm hg
    rw [loop_succ]
    by_cases h : i = N
    · subst h; exact ⟨n, hg, hend _ _⟩
    · rcases hstep (loopN B m) i n (by omega) hg with ⟨n', h1, h2⟩ | h2
      · rw [h2]
        exact ih (i + 1) n' (by omega) (by omega) h1
      · exact ⟨n, hg, h2⟩

/-- no list is too long to be gone through -/
structure LensOk (m : It7) : Prop where
  types : m.1.length ≤ 9223372036854775807
  type : ∀ y ∈ m.1, y.1.length ≤ 9223372036854775807 ∧ y.2.1.length ≤ 9223372036854775807
  imports : m.2.1.length ≤ 9223372036854775807
  funcs : m.2.2.1.length ≤ 9223372036854775807
  func : ∀ y ∈ m.2.2.1, y.2.1.length ≤ 9223372036854775807 ∧ okB y.2.2.1
  tables : m.2.2.2.1.length ≤ 9223372036854775807
  mems : m.2.2.2.2.1.length ≤ 9223372036854775807
  globals : m.2.2.2.2.2.1.length ≤ 9223372036854775807
  global : ∀ y ∈ m.2.2.2.2.2.1, okB y.2.2.1
  exports : m.2.2.2.2.2.2.1.length ≤ 9223372036854775807
  starts : m.2.2.2.2.2.2.2.1.length ≤ 9223372036854775807
  elems : m.2.2.2.2.2.2.2.2.1.length ≤ 9223372036854775807
  elem : ∀ y ∈ m.2.2.2.2.2.2.2.2.1, okB y.2.1 ∧ y.2.2.1.length ≤ 9223372036854775807
  counts : m.2.2.2.2.2.2.2.2.2.1.length ≤ 9223372036854775807
  datas : m.2.2.2.2.2.2.2.2.2.2.1.length ≤ 9223372036854775807
  data : ∀ y ∈ m.2.2.2.2.2.2.2.2.2.2.1, okB y.2.1
  customs : m.2.2.2.2.2.2.2.2.2.2.2.1.length ≤ 9223372036854775807

section
variable {R : Type}
theorem more_eq (a b : Int) (ha : a ≤ 3000) (hb : 0 ≤ b) : ∃ c, c ≤ 3000 ∧ (0 ≤ c → b ≤ 3000) ∧ ∀ (R : Type) (K : Int → Option R), p_ref08_more a b K = K c := by
  by_cases h1 : a < 0
  · refine ⟨-1, by omega, by omega, fun R K => ?_⟩
    unfold p_ref08_more
    simp only [cond_dec]
    rw [if_pos h1]
  · by_cases h2 : b > 3000
    · refine ⟨-1, by omega, by omega, fun R K => ?_⟩
      unfold p_ref08_more
      simp only [cond_dec]
      rw [if_neg h1, if_pos h2]
    · by_cases h3 : a + b > 3000
      · refine ⟨-1, by omega, by omega, fun R K => ?_⟩
        unfold p_ref08_more
        simp only [cond_dec]
        rw [if_neg h1, if_neg h2, w_i64 (by omega), if_pos h3]
      · refine ⟨a + b, by omega, by omega, fun R K => ?_⟩
        unfold p_ref08_more
        simp only [cond_dec]
        rw [if_neg h1, if_neg h2, w_i64 (by omega), if_neg h3]

theorem body_eq (a : Int) (l : List ((Int) × (Int) × (Int) × (Int) × (List (Int)) × Unit)) (ha : a ≤ 3000) (R : Type) (K : Int → Option R) : ∃ c, c ≤ 3000 ∧ p_ref08_bodySize a l K = K c := by
  obtain ⟨c, h1, h2, h3⟩ := more_eq a (l.length : Nat) ha (by omega)
  unfold p_ref08_bodySize fuel_ref08_bodySize_3
  simp only []
  rw [h3]
  by_cases hc : 0 ≤ c
  · have hl := h2 hc
    refine acc_loop _ (fun i n => (⟨n, l, i⟩ : X_ref08_bodySize_3)) l.length (fun n => K n) (fun n => n ≤ 3000) (fun rec i n hi hn => ?_) (fun rec n => ?_) fuel64 0 c (by omega) (lt_fuel (by omega)) h1
    · unfold B_ref08_bodySize_3
      simp only [cond_dec, cond_inB]
      rw [if_pos (by omega)]
      by_cases h0 : n ≥ 0
      · rw [if_pos h0, if_pos (by omega)]
        obtain ⟨c', g1, _, g3⟩ := more_eq n ((l.getD (i : Int).toNat ((0 : Int), ((0 : Int), ((0 : Int), ((0 : Int), (([] : List (Int)), ())))))).2.2.2.2.1.length : Nat) hn (by omega)
        refine .inl ⟨c', g1, ?_⟩
        rw [g3, w_i64 (by omega)]
        rfl
      · rw [if_neg h0]
        exact .inr rfl
    · unfold B_ref08_bodySize_3
      simp only [cond_dec]
      rw [if_neg (by omega)]
  · refine ⟨c, h1, ?_⟩
    obtain ⟨m, hm⟩ := fuel_add 1 (by omega)
    rw [hm, loop_succ]
    unfold B_ref08_bodySize_3
    simp only [cond_dec]
    rw [if_neg (show ¬ c ≥ 0 by omega)]
    split <;> rfl
end

section
variable {R : Type}
theorem sh2 (kr : Bool → Option R) (kx : It7 → Option R) (m : It7) (L : List Int) (hl : L.length ≤ 1000) : ∀ (n i : Nat), i ≤ L.length → L.length - i < n →
    loopN (B_ref08_Short_2 kr kx) n ⟨m, L, L.length, i⟩ = kr false ∨ ((∀ v ∈ L.drop i, v ≤ 70) ∧ loopN (B_ref08_Short_2 kr kx) n ⟨m, L, L.length, i⟩ = kx m) := by
  intro n
  induction n with
  | zero => intro i _ h; omega
  | succ n ih =>
    intro i hi hn
    rw [loop_succ]
    generalize loopN (B_ref08_Short_2 kr kx) n = rec at ih ⊢
    unfold B_ref08_Short_2
    simp only [cond_dec, cond_inB]
    by_cases h : i = L.length
    · rw [if_neg (by omega), List.drop_eq_nil_of_le (by omega)]
      exact .inr ⟨by simp, rfl⟩
    · have hi' : i < L.length := by omega
      have hg : L.getD i 0 = L[i] := by simp [List.getD, hi']
      rw [if_pos (by omega), if_pos (by omega), Int.toNat_natCast, hg, List.drop_eq_getElem_cons hi']
      by_cases h7 : L[i] > 70
      · rw [if_pos h7]; exact .inl rfl
      · rw [if_neg h7, w_i64 (by omega), show ((i : Int) + 1) = ((i + 1 : Nat) : Int) by omega]
        rcases ih (i + 1) (by omega) (by omega) with h1 | ⟨h1, h2⟩
        · exact .inl h1
        · refine .inr ⟨?_, h2⟩
          intro v hv
          rcases List.mem_cons.1 hv with rfl | hv
          · omega
          · exact h1 v hv

theorem s9 (K : Bool → Option R) (kx : It7 → Int → Option R) (m : It7) (a : List ((List (Int)) × (List (Int)) × Unit)) (h : a.length ≤ 9223372036854775807) (hx : ∀ n, n ≤ 3000 → ∃ b : Bool, kx m n = K b) (n0 : Int) (h0 : n0 ≤ 3000) : ∃ b : Bool, loopN (B_ref08_Short_9 kx) fuel64 ⟨m, n0, a, a.length, 0⟩ = K b := by
  have hstep : ∀ (rec : X_ref08_Short_9 → Option R) (i : Nat) (n : Int), i < a.length → n ≤ 3000 → ∃ n', n' ≤ 3000 ∧ B_ref08_Short_9 kx rec ⟨m, n, a, a.length, i⟩ = rec ⟨m, n', a, a.length, ((i + 1 : Nat) : Int)⟩ := fun rec i n hi hn => by
    unfold B_ref08_Short_9
    simp only [cond_dec, cond_inB]
    rw [if_pos (by omega), if_pos (by omega)]
    obtain ⟨c0, g0, _, e0⟩ := more_eq n ((a.getD (i : Int).toNat (([] : List (Int)), (([] : List (Int)), ()))).1.length : Nat) hn (by omega)
    obtain ⟨c1, g1, _, e1⟩ := more_eq c0 ((a.getD (i : Int).toNat (([] : List (Int)), (([] : List (Int)), ()))).2.1.length : Nat) g0 (by omega)
    refine ⟨c1, g1, ?_⟩
    rw [e0, e1]
    rw [w_i64 (by omega)]
    rfl
  have hend : ∀ (rec : X_ref08_Short_9 → Option R) (n : Int), B_ref08_Short_9 kx rec ⟨m, n, a, a.length, a.length⟩ = kx m n := fun rec n => by
    unfold B_ref08_Short_9
    simp only [cond_dec]
    rw [if_neg (by omega)]
  obtain ⟨n', h1, h2⟩ := acc_loop (B_ref08_Short_9 kx) (fun i n => (⟨m, n, a, a.length, i⟩ : X_ref08_Short_9)) a.length (fun n => kx m n) (fun n => n ≤ 3000) (fun rec i n hi hn => .inl (by obtain ⟨n', q1, q2⟩ := hstep rec i n hi hn; exact ⟨n', q1, q2⟩)) hend fuel64 0 n0 (by omega) (lt_fuel (by omega)) h0
  exact ⟨(hx n' h1).choose, h2.trans (hx n' h1).choose_spec⟩

theorem s14 (K : Bool → Option R) (kx : It7 → Int → Option R) (m : It7) (a : List ((List UInt8) × It0)) (h : a.length ≤ 9223372036854775807) (hx : ∀ n, n ≤ 3000 → ∃ b : Bool, kx m n = K b) (n0 : Int) (h0 : n0 ≤ 3000) : ∃ b : Bool, loopN (B_ref08_Short_14 kx) fuel64 ⟨m, n0, a, a.length, 0⟩ = K b := by
  have hstep : ∀ (rec : X_ref08_Short_14 → Option R) (i : Nat) (n : Int), i < a.length → n ≤ 3000 → ∃ n', n' ≤ 3000 ∧ B_ref08_Short_14 kx rec ⟨m, n, a, a.length, i⟩ = rec ⟨m, n', a, a.length, ((i + 1 : Nat) : Int)⟩ := fun rec i n hi hn => by
    unfold B_ref08_Short_14
    simp only [cond_dec, cond_inB]
    rw [if_pos (by omega), if_pos (by omega)]
    obtain ⟨c0, g0, _, e0⟩ := more_eq n ((a.getD (i : Int).toNat (([] : List UInt8), (([] : List UInt8), ((0 : Int), ((0 : Int), (((0 : Int), (false, ((0 : Int), ()))), (false, ()))))))).1.length : Nat) hn (by omega)
    obtain ⟨c1, g1, _, e1⟩ := more_eq c0 ((a.getD (i : Int).toNat (([] : List UInt8), (([] : List UInt8), ((0 : Int), ((0 : Int), (((0 : Int), (false, ((0 : Int), ()))), (false, ()))))))).2.1.length : Nat) g0 (by omega)
    refine ⟨c1, g1, ?_⟩
    rw [e0, e1]
    rw [w_i64 (by omega)]
    rfl
  have hend : ∀ (rec : X_ref08_Short_14 → Option R) (n : Int), B_ref08_Short_14 kx rec ⟨m, n, a, a.length, a.length⟩ = kx m n := fun rec n => by
    unfold B_ref08_Short_14
    simp only [cond_dec]
    rw [if_neg (by omega)]
  obtain ⟨n', h1, h2⟩ := acc_loop (B_ref08_Short_14 kx) (fun i n => (⟨m, n, a, a.length, i⟩ : X_ref08_Short_14)) a.length (fun n => kx m n) (fun n => n ≤ 3000) (fun rec i n hi hn => .inl (by obtain ⟨n', q1, q2⟩ := hstep rec i n hi hn; exact ⟨n', q1, q2⟩)) hend fuel64 0 n0 (by omega) (lt_fuel (by omega)) h0
  exact ⟨(hx n' h1).choose, h2.trans (hx n' h1).choose_spec⟩

theorem s19 (K : Bool → Option R) (kx : It7 → Int → Option R) (m : It7) (a : List ((Int) × It1)) (h : a.length ≤ 9223372036854775807) (hx : ∀ n, n ≤ 3000 → ∃ b : Bool, kx m n = K b) (n0 : Int) (h0 : n0 ≤ 3000) : ∃ b : Bool, loopN (B_ref08_Short_19 kx) fuel64 ⟨m, n0, a, a.length, 0⟩ = K b := by
  have hstep : ∀ (rec : X_ref08_Short_19 → Option R) (i : Nat) (n : Int), i < a.length → n ≤ 3000 → ∃ n', n' ≤ 3000 ∧ B_ref08_Short_19 kx rec ⟨m, n, a, a.length, i⟩ = rec ⟨m, n', a, a.length, ((i + 1 : Nat) : Int)⟩ := fun rec i n hi hn => by
    unfold B_ref08_Short_19
    simp only [cond_dec, cond_inB]
    rw [if_pos (by omega), if_pos (by omega)]
    obtain ⟨c0, g0, _, e0⟩ := more_eq n ((a.getD (i : Int).toNat ((0 : Int), (([] : List (Int)), (([] : List ((Int) × (Int) × (Int) × (Int) × (List (Int)) × Unit)), ())))).2.1.length : Nat) hn (by omega)
    obtain ⟨c1, g1, e1⟩ := body_eq c0 (a.getD (i : Int).toNat ((0 : Int), (([] : List (Int)), (([] : List ((Int) × (Int) × (Int) × (Int) × (List (Int)) × Unit)), ())))).2.2.1 g0 R (fun r => rec ⟨m, r, a, a.length, IntKind.i64.wrap ((i : Int) + (1 : Int))⟩)
    refine ⟨c1, g1, ?_⟩
    rw [e0, e1]
    rw [w_i64 (by omega)]
    rfl
  have hend : ∀ (rec : X_ref08_Short_19 → Option R) (n : Int), B_ref08_Short_19 kx rec ⟨m, n, a, a.length, a.length⟩ = kx m n := fun rec n => by
    unfold B_ref08_Short_19
    simp only [cond_dec]
    rw [if_neg (by omega)]
  obtain ⟨n', h1, h2⟩ := acc_loop (B_ref08_Short_19 kx) (fun i n => (⟨m, n, a, a.length, i⟩ : X_ref08_Short_19)) a.length (fun n => kx m n) (fun n => n ≤ 3000) (fun rec i n hi hn => .inl (by obtain ⟨n', q1, q2⟩ := hstep rec i n hi hn; exact ⟨n', q1, q2⟩)) hend fuel64 0 n0 (by omega) (lt_fuel (by omega)) h0
  exact ⟨(hx n' h1).choose, h2.trans (hx n' h1).choose_spec⟩

theorem s24 (K : Bool → Option R) (kx : It7 → Int → Option R) (m : It7) (a : List ((Int) × It2)) (h : a.length ≤ 9223372036854775807) (hx : ∀ n, n ≤ 3000 → ∃ b : Bool, kx m n = K b) (n0 : Int) (h0 : n0 ≤ 3000) : ∃ b : Bool, loopN (B_ref08_Short_24 kx) fuel64 ⟨m, n0, a, a.length, 0⟩ = K b := by
  have hstep : ∀ (rec : X_ref08_Short_24 → Option R) (i : Nat) (n : Int), i < a.length → n ≤ 3000 → ∃ n', n' ≤ 3000 ∧ B_ref08_Short_24 kx rec ⟨m, n, a, a.length, i⟩ = rec ⟨m, n', a, a.length, ((i + 1 : Nat) : Int)⟩ := fun rec i n hi hn => by
    unfold B_ref08_Short_24
    simp only [cond_dec, cond_inB]
    rw [if_pos (by omega), if_pos (by omega)]
    obtain ⟨c0, g0, e0⟩ := body_eq n (a.getD (i : Int).toNat ((0 : Int), (false, (([] : List ((Int) × (Int) × (Int) × (Int) × (List (Int)) × Unit)), ())))).2.2.1 hn R (fun r => rec ⟨m, r, a, a.length, IntKind.i64.wrap ((i : Int) + (1 : Int))⟩)
    refine ⟨c0, g0, ?_⟩
    rw [e0]
    rw [w_i64 (by omega)]
    rfl
  have hend : ∀ (rec : X_ref08_Short_24 → Option R) (n : Int), B_ref08_Short_24 kx rec ⟨m, n, a, a.length, a.length⟩ = kx m n := fun rec n => by
    unfold B_ref08_Short_24
    simp only [cond_dec]
    rw [if_neg (by omega)]
  obtain ⟨n', h1, h2⟩ := acc_loop (B_ref08_Short_24 kx) (fun i n => (⟨m, n, a, a.length, i⟩ : X_ref08_Short_24)) a.length (fun n => kx m n) (fun n => n ≤ 3000) (fun rec i n hi hn => .inl (by obtain ⟨n', q1, q2⟩ := hstep rec i n hi hn; exact ⟨n', q1, q2⟩)) hend fuel64 0 n0 (by omega) (lt_fuel (by omega)) h0
  exact ⟨(hx n' h1).choose, h2.trans (hx n' h1).choose_spec⟩

theorem s29 (K : Bool → Option R) (kx : It7 → Int → Option R) (m : It7) (a : List ((List UInt8) × (Int) × (Int) × Unit)) (h : a.length ≤ 9223372036854775807) (hx : ∀ n, n ≤ 3000 → ∃ b : Bool, kx m n = K b) (n0 : Int) (h0 : n0 ≤ 3000) : ∃ b : Bool, loopN (B_ref08_Short_29 kx) fuel64 ⟨m, n0, a, a.length, 0⟩ = K b := by
  have hstep : ∀ (rec : X_ref08_Short_29 → Option R) (i : Nat) (n : Int), i < a.length → n ≤ 3000 → ∃ n', n' ≤ 3000 ∧ B_ref08_Short_29 kx rec ⟨m, n, a, a.length, i⟩ = rec ⟨m, n', a, a.length, ((i + 1 : Nat) : Int)⟩ := fun rec i n hi hn => by
    unfold B_ref08_Short_29
    simp only [cond_dec, cond_inB]
    rw [if_pos (by omega), if_pos (by omega)]
    obtain ⟨c0, g0, _, e0⟩ := more_eq n ((a.getD (i : Int).toNat (([] : List UInt8), ((0 : Int), ((0 : Int), ())))).1.length : Nat) hn (by omega)
    refine ⟨c0, g0, ?_⟩
    rw [e0]
    rw [w_i64 (by omega)]
    rfl
  have hend : ∀ (rec : X_ref08_Short_29 → Option R) (n : Int), B_ref08_Short_29 kx rec ⟨m, n, a, a.length, a.length⟩ = kx m n := fun rec n => by
    unfold B_ref08_Short_29
    simp only [cond_dec]
    rw [if_neg (by omega)]
  obtain ⟨n', h1, h2⟩ := acc_loop (B_ref08_Short_29 kx) (fun i n => (⟨m, n, a, a.length, i⟩ : X_ref08_Short_29)) a.length (fun n => kx m n) (fun n => n ≤ 3000) (fun rec i n hi hn => .inl (by obtain ⟨n', q1, q2⟩ := hstep rec i n hi hn; exact ⟨n', q1, q2⟩)) hend fuel64 0 n0 (by omega) (lt_fuel (by omega)) h0
  exact ⟨(hx n' h1).choose, h2.trans (hx n' h1).choose_spec⟩

theorem s34 (K : Bool → Option R) (kx : It7 → Int → Option R) (m : It7) (a : List ((Int) × It3)) (h : a.length ≤ 9223372036854775807) (hx : ∀ n, n ≤ 3000 → ∃ b : Bool, kx m n = K b) (n0 : Int) (h0 : n0 ≤ 3000) : ∃ b : Bool, loopN (B_ref08_Short_34 kx) fuel64 ⟨m, n0, a, a.length, 0⟩ = K b := by
  have hstep : ∀ (rec : X_ref08_Short_34 → Option R) (i : Nat) (n : Int), i < a.length → n ≤ 3000 → ∃ n', n' ≤ 3000 ∧ B_ref08_Short_34 kx rec ⟨m, n, a, a.length, i⟩ = rec ⟨m, n', a, a.length, ((i + 1 : Nat) : Int)⟩ := fun rec i n hi hn => by
    unfold B_ref08_Short_34
    simp only [cond_dec, cond_inB]
    rw [if_pos (by omega), if_pos (by omega)]
    obtain ⟨c0, g0, _, e0⟩ := more_eq n ((a.getD (i : Int).toNat ((0 : Int), (([] : List ((Int) × (Int) × (Int) × (Int) × (List (Int)) × Unit)), (([] : List (Int)), ())))).2.2.1.length : Nat) hn (by omega)
    obtain ⟨c1, g1, e1⟩ := body_eq c0 (a.getD (i : Int).toNat ((0 : Int), (([] : List ((Int) × (Int) × (Int) × (Int) × (List (Int)) × Unit)), (([] : List (Int)), ())))).2.1 g0 R (fun r => rec ⟨m, r, a, a.length, IntKind.i64.wrap ((i : Int) + (1 : Int))⟩)
    refine ⟨c1, g1, ?_⟩
    rw [e0, e1]
    rw [w_i64 (by omega)]
    rfl
  have hend : ∀ (rec : X_ref08_Short_34 → Option R) (n : Int), B_ref08_Short_34 kx rec ⟨m, n, a, a.length, a.length⟩ = kx m n := fun rec n => by
    unfold B_ref08_Short_34
    simp only [cond_dec]
    rw [if_neg (by omega)]
  obtain ⟨n', h1, h2⟩ := acc_loop (B_ref08_Short_34 kx) (fun i n => (⟨m, n, a, a.length, i⟩ : X_ref08_Short_34)) a.length (fun n => kx m n) (fun n => n ≤ 3000) (fun rec i n hi hn => .inl (by obtain ⟨n', q1, q2⟩ := hstep rec i n hi hn; exact ⟨n', q1, q2⟩)) hend fuel64 0 n0 (by omega) (lt_fuel (by omega)) h0
  exact ⟨(hx n' h1).choose, h2.trans (hx n' h1).choose_spec⟩

theorem s39 (K : Bool → Option R) (kx : It7 → Int → Option R) (m : It7) (a : List ((Int) × It3)) (h : a.length ≤ 9223372036854775807) (hx : ∀ n, n ≤ 3000 → ∃ b : Bool, kx m n = K b) (n0 : Int) (h0 : n0 ≤ 3000) : ∃ b : Bool, loopN (B_ref08_Short_39 kx) fuel64 ⟨m, n0, a, a.length, 0⟩ = K b := by
  have hstep : ∀ (rec : X_ref08_Short_39 → Option R) (i : Nat) (n : Int), i < a.length → n ≤ 3000 → ∃ n', n' ≤ 3000 ∧ B_ref08_Short_39 kx rec ⟨m, n, a, a.length, i⟩ = rec ⟨m, n', a, a.length, ((i + 1 : Nat) : Int)⟩ := fun rec i n hi hn => by
    unfold B_ref08_Short_39
    simp only [cond_dec, cond_inB]
    rw [if_pos (by omega), if_pos (by omega)]
    obtain ⟨c0, g0, _, e0⟩ := more_eq n ((a.getD (i : Int).toNat ((0 : Int), (([] : List ((Int) × (Int) × (Int) × (Int) × (List (Int)) × Unit)), (([] : List (Int)), ())))).2.2.1.length : Nat) hn (by omega)
    obtain ⟨c1, g1, e1⟩ := body_eq c0 (a.getD (i : Int).toNat ((0 : Int), (([] : List ((Int) × (Int) × (Int) × (Int) × (List (Int)) × Unit)), (([] : List (Int)), ())))).2.1 g0 R (fun r => rec ⟨m, r, a, a.length, IntKind.i64.wrap ((i : Int) + (1 : Int))⟩)
    refine ⟨c1, g1, ?_⟩
    rw [e0, e1]
    rw [w_i64 (by omega)]
    rfl
  have hend : ∀ (rec : X_ref08_Short_39 → Option R) (n : Int), B_ref08_Short_39 kx rec ⟨m, n, a, a.length, a.length⟩ = kx m n := fun rec n => by
    unfold B_ref08_Short_39
    simp only [cond_dec]
    rw [if_neg (by omega)]
  obtain ⟨n', h1, h2⟩ := acc_loop (B_ref08_Short_39 kx) (fun i n => (⟨m, n, a, a.length, i⟩ : X_ref08_Short_39)) a.length (fun n => kx m n) (fun n => n ≤ 3000) (fun rec i n hi hn => .inl (by obtain ⟨n', q1, q2⟩ := hstep rec i n hi hn; exact ⟨n', q1, q2⟩)) hend fuel64 0 n0 (by omega) (lt_fuel (by omega)) h0
  exact ⟨(hx n' h1).choose, h2.trans (hx n' h1).choose_spec⟩

theorem s44 (K : Bool → Option R) (kx : Int → Option R) (a : List ((List UInt8) × (List (Int)) × Unit)) (h : a.length ≤ 9223372036854775807) (hx : ∀ n, n ≤ 3000 → ∃ b : Bool, kx n = K b) (n0 : Int) (h0 : n0 ≤ 3000) : ∃ b : Bool, loopN (B_ref08_Short_44 kx) fuel64 ⟨n0, a, a.length, 0⟩ = K b := by
  have hstep : ∀ (rec : X_ref08_Short_44 → Option R) (i : Nat) (n : Int), i < a.length → n ≤ 3000 → ∃ n', n' ≤ 3000 ∧ B_ref08_Short_44 kx rec ⟨n, a, a.length, i⟩ = rec ⟨n', a, a.length, ((i + 1 : Nat) : Int)⟩ := fun rec i n hi hn => by
    unfold B_ref08_Short_44
    simp only [cond_dec, cond_inB]
    rw [if_pos (by omega), if_pos (by omega)]
    obtain ⟨c0, g0, _, e0⟩ := more_eq n ((a.getD (i : Int).toNat (([] : List UInt8), (([] : List (Int)), ()))).1.length : Nat) hn (by omega)
    obtain ⟨c1, g1, _, e1⟩ := more_eq c0 ((a.getD (i : Int).toNat (([] : List UInt8), (([] : List (Int)), ()))).2.1.length : Nat) g0 (by omega)
    refine ⟨c1, g1, ?_⟩
    rw [e0, e1]
    rw [w_i64 (by omega)]
    rfl
  have hend : ∀ (rec : X_ref08_Short_44 → Option R) (n : Int), B_ref08_Short_44 kx rec ⟨n, a, a.length, a.length⟩ = kx n := fun rec n => by
    unfold B_ref08_Short_44
    simp only [cond_dec]
    rw [if_neg (by omega)]
  obtain ⟨n', h1, h2⟩ := acc_loop (B_ref08_Short_44 kx) (fun i n => (⟨n, a, a.length, i⟩ : X_ref08_Short_44)) a.length (fun n => kx n) (fun n => n ≤ 3000) (fun rec i n hi hn => .inl (by obtain ⟨n', q1, q2⟩ := hstep rec i n hi hn; exact ⟨n', q1, q2⟩)) hend fuel64 0 n0 (by omega) (lt_fuel (by omega)) h0
  exact ⟨(hx n' h1).choose, h2.trans (hx n' h1).choose_spec⟩

theorem short8 (m : It7) (K : Bool → Option R) (h : LensOk m) : ∃ b : Bool, p_ref08_Short m K = K b ∧ (b = true → m.2.2.2.2.2.2.2.2.2.2.2.1.length ≤ 70) := by
  unfold p_ref08_Short
  simp only [fuel_ref08_Short_2, fuel_ref08_Short_9, fuel_ref08_Short_14, fuel_ref08_Short_19, fuel_ref08_Short_24, fuel_ref08_Short_29, fuel_ref08_Short_34, fuel_ref08_Short_39, fuel_ref08_Short_44]
  refine Or.elim (sh2 _ _ m _ (by simp) fuel64 0 (by omega) (lt_fuel (by simp))) (fun hh => ⟨false, hh, by simp⟩) (fun hh => ?_)
  obtain ⟨h70, hh⟩ := hh
  have hc : m.2.2.2.2.2.2.2.2.2.2.2.1.length ≤ 70 := by
    have := h70 (m.2.2.2.2.2.2.2.2.2.2.2.1.length : Nat) (by simp)
    omega
  have hb := s9 K (fun w18 w19 =>
    loopN (B_ref08_Short_14 (fun w21 w22 =>
    loopN (B_ref08_Short_19 (fun w24 w25 =>
    loopN (B_ref08_Short_24 (fun w27 w28 =>
    loopN (B_ref08_Short_29 (fun w30 w31 =>
    loopN (B_ref08_Short_34 (fun w33 w34 =>
    loopN (B_ref08_Short_39 (fun w36 w37 =>
    loopN (B_ref08_Short_44 (fun w39 => K (decide (w39 ≥ (0 : Int))))) fuel64 ⟨w37, w36.2.2.2.2.2.2.2.2.2.2.2.1, ((List.length w36.2.2.2.2.2.2.2.2.2.2.2.1 : Nat) : Int), (0 : Int)⟩)) fuel64 ⟨w33, w34, w33.2.2.2.2.2.2.2.2.2.2.1, ((List.length w33.2.2.2.2.2.2.2.2.2.2.1 : Nat) : Int), (0 : Int)⟩)) fuel64 ⟨w30, w31, w30.2.2.2.2.2.2.2.2.1, ((List.length w30.2.2.2.2.2.2.2.2.1 : Nat) : Int), (0 : Int)⟩)) fuel64 ⟨w27, w28, w27.2.2.2.2.2.2.1, ((List.length w27.2.2.2.2.2.2.1 : Nat) : Int), (0 : Int)⟩)) fuel64 ⟨w24, w25, w24.2.2.2.2.2.1, ((List.length w24.2.2.2.2.2.1 : Nat) : Int), (0 : Int)⟩)) fuel64 ⟨w21, w22, w21.2.2.1, ((List.length w21.2.2.1 : Nat) : Int), (0 : Int)⟩)) fuel64 ⟨w18, w19, w18.2.1, ((List.length w18.2.1 : Nat) : Int), (0 : Int)⟩) m m.1 h.types
    (fun n hn => s14 K _ m m.2.1 h.imports (fun n hn => s19 K _ m m.2.2.1 h.funcs (fun n hn => s24 K _ m m.2.2.2.2.2.1 h.globals (fun n hn => s29 K _ m m.2.2.2.2.2.2.1 h.exports (fun n hn => s34 K _ m m.2.2.2.2.2.2.2.2.1 h.elems (fun n hn => s39 K _ m m.2.2.2.2.2.2.2.2.2.2.1 h.datas (fun n hn => s44 K _ m.2.2.2.2.2.2.2.2.2.2.2.1 h.customs (fun n hn => ⟨_, rfl⟩) n hn) n hn) n hn) n hn) n hn) n hn) n hn) 0 (by omega)
  obtain ⟨b, hb⟩ := hb
  exact ⟨b, hh.trans hb, fun _ => hc⟩
end

/-! ## customs -/
end Go.Trm.G1
