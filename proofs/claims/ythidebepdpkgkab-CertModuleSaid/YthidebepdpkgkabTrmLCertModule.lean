import Derived.Test.YthidebepdpkgkabTrmQSame
set_option linter.unusedVariables false
set_option linter.unusedSimpArgs false
namespace Go.Trm.G1

/-! ## trammelref08.Short: it ends; what is let in has few customs -/
section
theorem more_eq (a b : Int) (ha : a ≤ 3000) (hb : 0 ≤ b) : ∃ c, c ≤ 3000 ∧ (0 ≤ c → b ≤ 3000) ∧ ∀ (R : Type) (K : Int → Option R), p_ref08_more a b K = K c := by
  by_cases h1 : a < 0
  · refine ⟨-1, by omega, by omega, fun R K => ?_⟩
    unfold p_ref08_more
    simp only [cond_dec]
    rw [if_pos h1]
  · by_cases h2 : b > 3000
    · refine ⟨-1, by omega, by omega, fun R K => ?_⟩
      unfold p_ref08_more
      simp only [cond_dec]
      rw [if_neg h1, if_pos h2]
    · by_cases h3 : a + b > 3000
      · refine ⟨-1, by omega, by omega, fun R K => ?_⟩
        unfold p_ref08_more
        simp only [cond_dec]
        rw [if_neg h1, if_neg h2, w_i64 (by omega), if_pos h3]
      · refine ⟨a + b, by omega, by omega, fun R K => ?_⟩
        unfold p_ref08_more
        simp only [cond_dec]
        rw [if_neg h1, if_neg h2, w_i64 (by omega), if_neg h3]

theorem body_eq (a : Int) (l : List ((Int) × (Int) × (Int) × (Int) × (List (Int)) × Unit)) (ha : a ≤ 3000) (R : Type) (K : Int → Option R) : ∃ c, c ≤ 3000 ∧ p_ref08_bodySize a l K = K c := by
  obtain ⟨c, h1, h2, h3⟩ := more_eq a (l.length : Nat) ha (by omega)
  unfold p_ref08_bodySize fuel_ref08_bodySize_3
  simp only []
  rw [h3]
  by_cases hc : 0 ≤ c
  · have hl := h2 hc
    refine acc_loop _ (fun i n => (⟨n, l, i⟩ : X_ref08_bodySize_3)) l.length (fun n => K n) (fun n => n ≤ 3000) (fun rec i n hi hn => ?_) (fun rec n => ?_) fuel64 0 c (by omega) (lt_fuel (by omega)) h1
    · unfold B_ref08_bodySize_3
      simp only [cond_dec, cond_inB]
      rw [if_pos (by omega)]
      by_cases h0 : n ≥ 0
      · rw [if_pos h0, if_pos (by omega)]
        obtain ⟨c', g1, _, g3⟩ := more_eq n ((l.getD (i : Int).toNat ((0 : Int), ((0 : Int), ((0 : Int), ((0 : Int), (([] : List (Int)), ())))))).2.2.2.2.1.length : Nat) hn (by omega)
        refine .inl ⟨c', g1, ?_⟩
        rw [g3, w_i64 (by omega)]
        rfl
      · rw [if_neg h0]
        exact .inr rfl
    · unfold B_ref08_bodySize_3
      simp only [cond_dec]
      rw [if_neg (by omega)]
  · refine ⟨c, h1, ?_⟩
    obtain ⟨m, hm⟩ := fuel_add 1 (by omega)
    rw [hm, loop_succ]
    unfold B_ref08_bodySize_3
    simp only [cond_dec]
    rw [if_neg (show ¬ c ≥ 0 by omega)]
    split <;> rfl
end

section
variable {R : Type}
theorem sh2 (kr : Bool → Option R) (kx : It10 → Option R) (m : It10) (L : List Int) (hl : L.length ≤ 1000) : ∀ (n i : Nat), i ≤ L.length → L.length - i < n →
    loopN (B_ref08_Short_2 kr kx) n ⟨m, L, L.length, i⟩ = kr false ∨ ((∀ v ∈ L.drop i, v ≤ 70) ∧ loopN (B_ref08_Short_2 kr kx) n ⟨m, L, L.length, i⟩ = kx m) := by
  intro n
  induction n with
  | zero => intro i _ h; omega
  | succ n ih =>
    intro i hi hn
    rw [loop_succ]
    generalize loopN (B_ref08_Short_2 kr kx) n = rec at ih ⊢
    unfold B_ref08_Short_2
    simp only [cond_dec, cond_inB]
    by_cases h : i = L.length
    · rw [if_neg (by omega), List.drop_eq_nil_of_le (by omega)]
      exact .inr ⟨by simp, rfl⟩
    · have hi' : i < L.length := by omega
      have hg : L.getD i 0 = L[i] := by simp [List.getD, hi']
      rw [if_pos (by omega), if_pos (by omega), Int.toNat_natCast, hg, List.drop_eq_getElem_cons hi']
      by_cases h7 : L[i] > 70
      · rw [if_pos h7]; exact .inl rfl
      · rw [if_neg h7, w_i64 (by omega), show ((i : Int) + 1) = ((i + 1 : Nat) : Int) by omega]
        rcases ih (i + 1) (by omega) (by omega) with h1 | ⟨h1, h2⟩
        · exact .inl h1
        · refine .inr ⟨?_, h2⟩
          intro v hv
          rcases List.mem_cons.1 hv with rfl | hv
          · omega
          · exact h1 v hv

theorem s9 (K : Bool → Option R) (kx : It10 → Int → Option R) (m : It10) (a : List ((List (Int)) × (List (Int)) × Unit)) (h : a.length ≤ 9223372036854775807) (hx : ∀ n, n ≤ 3000 → ∃ b : Bool, kx m n = K b) (n0 : Int) (h0 : n0 ≤ 3000) : ∃ b : Bool, loopN (B_ref08_Short_9 kx) fuel64 ⟨m, n0, a, a.length, 0⟩ = K b := by
  have hstep : ∀ (rec : X_ref08_Short_9 → Option R) (i : Nat) (n : Int), i < a.length → n ≤ 3000 → ∃ n', n' ≤ 3000 ∧ B_ref08_Short_9 kx rec ⟨m, n, a, a.length, i⟩ = rec ⟨m, n', a, a.length, ((i + 1 : Nat) : Int)⟩ := fun rec i n hi hn => by
    unfold B_ref08_Short_9
    simp only [cond_dec, cond_inB]
    rw [if_pos (by omega), if_pos (by omega)]
    obtain ⟨c0, g0, _, e0⟩ := more_eq n ((a.getD (i : Int).toNat (([] : List (Int)), (([] : List (Int)), ()))).1.length : Nat) hn (by omega)
    obtain ⟨c1, g1, _, e1⟩ := more_eq c0 ((a.getD (i : Int).toNat (([] : List (Int)), (([] : List (Int)), ()))).2.1.length : Nat) g0 (by omega)
    refine ⟨c1, g1, ?_⟩
    rw [e0, e1]
    rw [w_i64 (by omega)]
    rfl
  have hend : ∀ (rec : X_ref08_Short_9 → Option R) (n : Int), B_ref08_Short_9 kx rec ⟨m, n, a, a.length, a.length⟩ = kx m n := fun rec n => by
    unfold B_ref08_Short_9
    simp only [cond_dec]
    rw [if_neg (by omega)]
  obtain ⟨n', h1, h2⟩ := acc_loop (B_ref08_Short_9 kx) (fun i n => (⟨m, n, a, a.length, i⟩ : X_ref08_Short_9)) a.length (fun n => kx m n) (fun n => n ≤ 3000) (fun rec i n hi hn => .inl (by obtain ⟨n', q1, q2⟩ := hstep rec i n hi hn; exact ⟨n', q1, q2⟩)) hend fuel64 0 n0 (by omega) (lt_fuel (by omega)) h0
  exact ⟨(hx n' h1).choose, h2.trans (hx n' h1).choose_spec⟩

theorem s14 (K : Bool → Option R) (kx : It10 → Int → Option R) (m : It10) (a : List ((List UInt8) × It3)) (h : a.length ≤ 9223372036854775807) (hx : ∀ n, n ≤ 3000 → ∃ b : Bool, kx m n = K b) (n0 : Int) (h0 : n0 ≤ 3000) : ∃ b : Bool, loopN (B_ref08_Short_14 kx) fuel64 ⟨m, n0, a, a.length, 0⟩ = K b := by
  have hstep : ∀ (rec : X_ref08_Short_14 → Option R) (i : Nat) (n : Int), i < a.length → n ≤ 3000 → ∃ n', n' ≤ 3000 ∧ B_ref08_Short_14 kx rec ⟨m, n, a, a.length, i⟩ = rec ⟨m, n', a, a.length, ((i + 1 : Nat) : Int)⟩ := fun rec i n hi hn => by
    unfold B_ref08_Short_14
    simp only [cond_dec, cond_inB]
    rw [if_pos (by omega), if_pos (by omega)]
    obtain ⟨c0, g0, _, e0⟩ := more_eq n ((a.getD (i : Int).toNat (([] : List UInt8), (([] : List UInt8), ((0 : Int), ((0 : Int), (((0 : Int), (false, ((0 : Int), ()))), (false, ()))))))).1.length : Nat) hn (by omega)
    obtain ⟨c1, g1, _, e1⟩ := more_eq c0 ((a.getD (i : Int).toNat (([] : List UInt8), (([] : List UInt8), ((0 : Int), ((0 : Int), (((0 : Int), (false, ((0 : Int), ()))), (false, ()))))))).2.1.length : Nat) g0 (by omega)
    refine ⟨c1, g1, ?_⟩
    rw [e0, e1]
    rw [w_i64 (by omega)]
    rfl
  have hend : ∀ (rec : X_ref08_Short_14 → Option R) (n : Int), B_ref08_Short_14 kx rec ⟨m, n, a, a.length, a.length⟩ = kx m n := fun rec n => by
    unfold B_ref08_Short_14
    simp only [cond_dec]
    rw [if_neg (by omega)]
  obtain ⟨n', h1, h2⟩ := acc_loop (B_ref08_Short_14 kx) (fun i n => (⟨m, n, a, a.length, i⟩ : X_ref08_Short_14)) a.length (fun n => kx m n) (fun n => n ≤ 3000) (fun rec i n hi hn => .inl (by obtain ⟨n', q1, q2⟩ := hstep rec i n hi hn; exact ⟨n', q1, q2⟩)) hend fuel64 0 n0 (by omega) (lt_fuel (by omega)) h0
  exact ⟨(hx n' h1).choose, h2.trans (hx n' h1).choose_spec⟩

theorem s19 (K : Bool → Option R) (kx : It10 → Int → Option R) (m : It10) (a : List ((Int) × It4)) (h : a.length ≤ 9223372036854775807) (hx : ∀ n, n ≤ 3000 → ∃ b : Bool, kx m n = K b) (n0 : Int) (h0 : n0 ≤ 3000) : ∃ b : Bool, loopN (B_ref08_Short_19 kx) fuel64 ⟨m, n0, a, a.length, 0⟩ = K b := by
  have hstep : ∀ (rec : X_ref08_Short_19 → Option R) (i : Nat) (n : Int), i < a.length → n ≤ 3000 → ∃ n', n' ≤ 3000 ∧ B_ref08_Short_19 kx rec ⟨m, n, a, a.length, i⟩ = rec ⟨m, n', a, a.length, ((i + 1 : Nat) : Int)⟩ := fun rec i n hi hn => by
    unfold B_ref08_Short_19
    simp only [cond_dec, cond_inB]
    rw [if_pos (by omega), if_pos (by omega)]
    obtain ⟨c0, g0, _, e0⟩ := more_eq n ((a.getD (i : Int).toNat ((0 : Int), (([] : List (Int)), (([] : List ((Int) × (Int) × (Int) × (Int) × (List (Int)) × Unit)), ())))).2.1.length : Nat) hn (by omega)
    obtain ⟨c1, g1, e1⟩ := body_eq c0 (a.getD (i : Int).toNat ((0 : Int), (([] : List (Int)), (([] : List ((Int) × (Int) × (Int) × (Int) × (List (Int)) × Unit)), ())))).2.2.1 g0 R (fun r => rec ⟨m, r, a, a.length, IntKind.i64.wrap ((i : Int) + (1 : Int))⟩)
    refine ⟨c1, g1, ?_⟩
    rw [e0, e1]
    rw [w_i64 (by omega)]
    rfl
  have hend : ∀ (rec : X_ref08_Short_19 → Option R) (n : Int), B_ref08_Short_19 kx rec ⟨m, n, a, a.length, a.length⟩ = kx m n := fun rec n => by
    unfold B_ref08_Short_19
    simp only [cond_dec]
    rw [if_neg (by omega)]
  obtain ⟨n', h1, h2⟩ := acc_loop (B_ref08_Short_19 kx) (fun i n => (⟨m, n, a, a.length, i⟩ : X_ref08_Short_19)) a.length (fun n => kx m n) (fun n => n ≤ 3000) (fun rec i n hi hn => .inl (by obtain ⟨n', q1, q2⟩ := hstep rec i n hi hn; exact ⟨n', q1, q2⟩)) hend fuel64 0 n0 (by omega) (lt_fuel (by omega)) h0
  exact ⟨(hx n' h1).choose, h2.trans (hx n' h1).choose_spec⟩

theorem s24 (K : Bool → Option R) (kx : It10 → Int → Option R) (m : It10) (a : List ((Int) × It5)) (h : a.length ≤ 9223372036854775807) (hx : ∀ n, n ≤ 3000 → ∃ b : Bool, kx m n = K b) (n0 : Int) (h0 : n0 ≤ 3000) : ∃ b : Bool, loopN (B_ref08_Short_24 kx) fuel64 ⟨m, n0, a, a.length, 0⟩ = K b := by
  have hstep : ∀ (rec : X_ref08_Short_24 → Option R) (i : Nat) (n : Int), i < a.length → n ≤ 3000 → ∃ n', n' ≤ 3000 ∧ B_ref08_Short_24 kx rec ⟨m, n, a, a.length, i⟩ = rec ⟨m, n', a, a.length, ((i + 1 : Nat) : Int)⟩ := fun rec i n hi hn => by
    unfold B_ref08_Short_24
    simp only [cond_dec, cond_inB]
    rw [if_pos (by omega), if_pos (by omega)]
    obtain ⟨c0, g0, e0⟩ := body_eq n (a.getD (i : Int).toNat ((0 : Int), (false, (([] : List ((Int) × (Int) × (Int) × (Int) × (List (Int)) × Unit)), ())))).2.2.1 hn R (fun r => rec ⟨m, r, a, a.length, IntKind.i64.wrap ((i : Int) + (1 : Int))⟩)
    refine ⟨c0, g0, ?_⟩
    rw [e0]
    rw [w_i64 (by omega)]
    rfl
  have hend : ∀ (rec : X_ref08_Short_24 → Option R) (n : Int), B_ref08_Short_24 kx rec ⟨m, n, a, a.length, a.length⟩ = kx m n := fun rec n => by
    unfold B_ref08_Short_24
    simp only [cond_dec]
    rw [if_neg (by omega)]
  obtain ⟨n', h1, h2⟩ := acc_loop (B_ref08_Short_24 kx) (fun i n => (⟨m, n, a, a.length, i⟩ : X_ref08_Short_24)) a.length (fun n => kx m n) (fun n => n ≤ 3000) (fun rec i n hi hn => .inl (by obtain ⟨n', q1, q2⟩ := hstep rec i n hi hn; exact ⟨n', q1, q2⟩)) hend fuel64 0 n0 (by omega) (lt_fuel (by omega)) h0
  exact ⟨(hx n' h1).choose, h2.trans (hx n' h1).choose_spec⟩

theorem s29 (K : Bool → Option R) (kx : It10 → Int → Option R) (m : It10) (a : List ((List UInt8) × (Int) × (Int) × Unit)) (h : a.length ≤ 9223372036854775807) (hx : ∀ n, n ≤ 3000 → ∃ b : Bool, kx m n = K b) (n0 : Int) (h0 : n0 ≤ 3000) : ∃ b : Bool, loopN (B_ref08_Short_29 kx) fuel64 ⟨m, n0, a, a.length, 0⟩ = K b := by
  have hstep : ∀ (rec : X_ref08_Short_29 → Option R) (i : Nat) (n : Int), i < a.length → n ≤ 3000 → ∃ n', n' ≤ 3000 ∧ B_ref08_Short_29 kx rec ⟨m, n, a, a.length, i⟩ = rec ⟨m, n', a, a.length, ((i + 1 : Nat) : Int)⟩ := fun rec i n hi hn => by
    unfold B_ref08_Short_29
    simp only [cond_dec, cond_inB]
    rw [if_pos (by omega), if_pos (by omega)]
    obtain ⟨c0, g0, _, e0⟩ := more_eq n ((a.getD (i : Int).toNat (([] : List UInt8), ((0 : Int), ((0 : Int), ())))).1.length : Nat) hn (by omega)
    refine ⟨c0, g0, ?_⟩
    rw [e0]
    rw [w_i64 (by omega)]
    rfl
  have hend : ∀ (rec : X_ref08_Short_29 → Option R) (n : Int), B_ref08_Short_29 kx rec ⟨m, n, a, a.length, a.length⟩ = kx m n := fun rec n => by
    unfold B_ref08_Short_29
    simp only [cond_dec]
    rw [if_neg (by omega)]
  obtain ⟨n', h1, h2⟩ := acc_loop (B_ref08_Short_29 kx) (fun i n => (⟨m, n, a, a.length, i⟩ : X_ref08_Short_29)) a.length (fun n => kx m n) (fun n => n ≤ 3000) (fun rec i n hi hn => .inl (by obtain ⟨n', q1, q2⟩ := hstep rec i n hi hn; exact ⟨n', q1, q2⟩)) hend fuel64 0 n0 (by omega) (lt_fuel (by omega)) h0
  exact ⟨(hx n' h1).choose, h2.trans (hx n' h1).choose_spec⟩

theorem s34 (K : Bool → Option R) (kx : It10 → Int → Option R) (m : It10) (a : List ((Int) × It6)) (h : a.length ≤ 9223372036854775807) (hx : ∀ n, n ≤ 3000 → ∃ b : Bool, kx m n = K b) (n0 : Int) (h0 : n0 ≤ 3000) : ∃ b : Bool, loopN (B_ref08_Short_34 kx) fuel64 ⟨m, n0, a, a.length, 0⟩ = K b := by
  have hstep : ∀ (rec : X_ref08_Short_34 → Option R) (i : Nat) (n : Int), i < a.length → n ≤ 3000 → ∃ n', n' ≤ 3000 ∧ B_ref08_Short_34 kx rec ⟨m, n, a, a.length, i⟩ = rec ⟨m, n', a, a.length, ((i + 1 : Nat) : Int)⟩ := fun rec i n hi hn => by
    unfold B_ref08_Short_34
    simp only [cond_dec, cond_inB]
    rw [if_pos (by omega), if_pos (by omega)]
    obtain ⟨c0, g0, _, e0⟩ := more_eq n ((a.getD (i : Int).toNat ((0 : Int), (([] : List ((Int) × (Int) × (Int) × (Int) × (List (Int)) × Unit)), (([] : List (Int)), ())))).2.2.1.length : Nat) hn (by omega)
    obtain ⟨c1, g1, e1⟩ := body_eq c0 (a.getD (i : Int).toNat ((0 : Int), (([] : List ((Int) × (Int) × (Int) × (Int) × (List (Int)) × Unit)), (([] : List (Int)), ())))).2.1 g0 R (fun r => rec ⟨m, r, a, a.length, IntKind.i64.wrap ((i : Int) + (1 : Int))⟩)
    refine ⟨c1, g1, ?_⟩
    rw [e0, e1]
    rw [w_i64 (by omega)]
    rfl
  have hend : ∀ (rec : X_ref08_Short_34 → Option R) (n : Int), B_ref08_Short_34 kx rec ⟨m, n, a, a.length, a.length⟩ = kx m n := fun rec n => by
    unfold B_ref08_Short_34
    simp only [cond_dec]
    rw [if_neg (by omega)]
  obtain ⟨n', h1, h2⟩ := acc_loop (B_ref08_Short_34 kx) (fun i n => (⟨m, n, a, a.length, i⟩ : X_ref08_Short_34)) a.length (fun n => kx m n) (fun n => n ≤ 3000) (fun rec i n hi hn => .inl (by obtain ⟨n', q1, q2⟩ := hstep rec i n hi hn; exact ⟨n', q1, q2⟩)) hend fuel64 0 n0 (by omega) (lt_fuel (by omega)) h0
  exact ⟨(hx n' h1).choose, h2.trans (hx n' h1).choose_spec⟩

theorem s39 (K : Bool → Option R) (kx : It10 → Int → Option R) (m : It10) (a : List ((Int) × It6)) (h : a.length ≤ 9223372036854775807) (hx : ∀ n, n ≤ 3000 → ∃ b : Bool, kx m n = K b) (n0 : Int) (h0 : n0 ≤ 3000) : ∃ b : Bool, loopN (B_ref08_Short_39 kx) fuel64 ⟨m, n0, a, a.length, 0⟩ = K b := by
  have hstep : ∀ (rec : X_ref08_Short_39 → Option R) (i : Nat) (n : Int), i < a.length → n ≤ 3000 → ∃ n', n' ≤ 3000 ∧ B_ref08_Short_39 kx rec ⟨m, n, a, a.length, i⟩ = rec ⟨m, n', a, a.length, ((i + 1 : Nat) : Int)⟩ := fun rec i n hi hn => by
    unfold B_ref08_Short_39
    simp only [cond_dec, cond_inB]
    rw [if_pos (by omega), if_pos (by omega)]
    obtain ⟨c0, g0, _, e0⟩ := more_eq n ((a.getD (i : Int).toNat ((0 : Int), (([] : List ((Int) × (Int) × (Int) × (Int) × (List (Int)) × Unit)), (([] : List (Int)), ())))).2.2.1.length : Nat) hn (by omega)
    obtain ⟨c1, g1, e1⟩ := body_eq c0 (a.getD (i : Int).toNat ((0 : Int), (([] : List ((Int) × (Int) × (Int) × (Int) × (List (Int)) × Unit)), (([] : List (Int)), ())))).2.1 g0 R (fun r => rec ⟨m, r, a, a.length, IntKind.i64.wrap ((i : Int) + (1 : Int))⟩)
    refine ⟨c1, g1, ?_⟩
    rw [e0, e1]
    rw [w_i64 (by omega)]
    rfl
  have hend : ∀ (rec : X_ref08_Short_39 → Option R) (n : Int), B_ref08_Short_39 kx rec ⟨m, n, a, a.length, a.length⟩ = kx m n := fun rec n => by
    unfold B_ref08_Short_39
    simp only [cond_dec]
    rw [if_neg (by omega)]
  obtain ⟨n', h1, h2⟩ := acc_loop (B_ref08_Short_39 kx) (fun i n => (⟨m, n, a, a.length, i⟩ : X_ref08_Short_39)) a.length (fun n => kx m n) (fun n => n ≤ 3000) (fun rec i n hi hn => .inl (by obtain ⟨n', q1, q2⟩ := hstep rec i n hi hn; exact ⟨n', q1, q2⟩)) hend fuel64 0 n0 (by omega) (lt_fuel (by omega)) h0
  exact ⟨(hx n' h1).choose, h2.trans (hx n' h1).choose_spec⟩

theorem s44 (K : Bool → Option R) (kx : Int → Option R) (a : List ((List UInt8) × (List (Int)) × Unit)) (h : a.length ≤ 9223372036854775807) (hx : ∀ n, n ≤ 3000 → ∃ b : Bool, kx n = K b) (n0 : Int) (h0 : n0 ≤ 3000) : ∃ b : Bool, loopN (B_ref08_Short_44 kx) fuel64 ⟨n0, a, a.length, 0⟩ = K b := by
  have hstep : ∀ (rec : X_ref08_Short_44 → Option R) (i : Nat) (n : Int), i < a.length → n ≤ 3000 → ∃ n', n' ≤ 3000 ∧ B_ref08_Short_44 kx rec ⟨n, a, a.length, i⟩ = rec ⟨n', a, a.length, ((i + 1 : Nat) : Int)⟩ := fun rec i n hi hn => by
    unfold B_ref08_Short_44
    simp only [cond_dec, cond_inB]
    rw [if_pos (by omega), if_pos (by omega)]
    obtain ⟨c0, g0, _, e0⟩ := more_eq n ((a.getD (i : Int).toNat (([] : List UInt8), (([] : List (Int)), ()))).1.length : Nat) hn (by omega)
    obtain ⟨c1, g1, _, e1⟩ := more_eq c0 ((a.getD (i : Int).toNat (([] : List UInt8), (([] : List (Int)), ()))).2.1.length : Nat) g0 (by omega)
    refine ⟨c1, g1, ?_⟩
    rw [e0, e1]
    rw [w_i64 (by omega)]
    rfl
  have hend : ∀ (rec : X_ref08_Short_44 → Option R) (n : Int), B_ref08_Short_44 kx rec ⟨n, a, a.length, a.length⟩ = kx n := fun rec n => by
    unfold B_ref08_Short_44
    simp only [cond_dec]
    rw [if_neg (by omega)]
  obtain ⟨n', h1, h2⟩ := acc_loop (B_ref08_Short_44 kx) (fun i n => (⟨n, a, a.length, i⟩ : X_ref08_Short_44)) a.length (fun n => kx n) (fun n => n ≤ 3000) (fun rec i n hi hn => .inl (by obtain ⟨n', q1, q2⟩ := hstep rec i n hi hn; exact ⟨n', q1, q2⟩)) hend fuel64 0 n0 (by omega) (lt_fuel (by omega)) h0
  exact ⟨(hx n' h1).choose, h2.trans (hx n' h1).choose_spec⟩

theorem short8 (m : It10) (K : Bool → Option R) (h : LensOk m) : ∃ b : Bool, p_ref08_Short m K = K b ∧ (b = true → m.2.2.2.2.2.2.2.2.2.2.2.1.length ≤ 70) := by
  unfold p_ref08_Short
  simp only [fuel_ref08_Short_2, fuel_ref08_Short_9, fuel_ref08_Short_14, fuel_ref08_Short_19, fuel_ref08_Short_24, fuel_ref08_Short_29, fuel_ref08_Short_34, fuel_ref08_Short_39, fuel_ref08_Short_44]
  refine Or.elim (sh2 _ _ m _ (by simp) fuel64 0 (by omega) (lt_fuel (by simp))) (fun hh => ⟨false, hh, by simp⟩) (fun hh => ?_)
  obtain ⟨h70, hh⟩ := hh
  have hc : m.2.2.2.2.2.2.2.2.2.2.2.1.length ≤ 70 := by
    have := h70 (m.2.2.2.2.2.2.2.2.2.2.2.1.length : Nat) (by simp)
    omega
  have hb := s9 K (fun w18 w19 =>
    loopN (B_ref08_Short_14 (fun w21 w22 =>
    loopN (B_ref08_Short_19 (fun w24 w25 =>
    loopN (B_ref08_Short_24 (fun w27 w28 =>
    loopN (B_ref08_Short_29 (fun w30 w31 =>
    loopN (B_ref08_Short_34 (fun w33 w34 =>
    loopN (B_ref08_Short_39 (fun w36 w37 =>
    loopN (B_ref08_Short_44 (fun w39 => K (decide (w39 ≥ (0 : Int))))) fuel64 ⟨w37, w36.2.2.2.2.2.2.2.2.2.2.2.1, ((List.length w36.2.2.2.2.2.2.2.2.2.2.2.1 : Nat) : Int), (0 : Int)⟩)) fuel64 ⟨w33, w34, w33.2.2.2.2.2.2.2.2.2.2.1, ((List.length w33.2.2.2.2.2.2.2.2.2.2.1 : Nat) : Int), (0 : Int)⟩)) fuel64 ⟨w30, w31, w30.2.2.2.2.2.2.2.2.1, ((List.length w30.2.2.2.2.2.2.2.2.1 : Nat) : Int), (0 : Int)⟩)) fuel64 ⟨w27, w28, w27.2.2.2.2.2.2.1, ((List.length w27.2.2.2.2.2.2.1 : Nat) : Int), (0 : Int)⟩)) fuel64 ⟨w24, w25, w24.2.2.2.2.2.1, ((List.length w24.2.2.2.2.2.1 : Nat) : Int), (0 : Int)⟩)) fuel64 ⟨w21, w22, w21.2.2.1, ((List.length w21.2.2.1 : Nat) : Int), (0 : Int)⟩)) fuel64 ⟨w18, w19, w18.2.1, ((List.length w18.2.1 : Nat) : Int), (0 : Int)⟩) m m.1 h.types
    (fun n hn => s14 K _ m m.2.1 h.imports (fun n hn => s19 K _ m m.2.2.1 h.funcs (fun n hn => s24 K _ m m.2.2.2.2.2.1 h.globals (fun n hn => s29 K _ m m.2.2.2.2.2.2.1 h.exports (fun n hn => s34 K _ m m.2.2.2.2.2.2.2.2.1 h.elems (fun n hn => s39 K _ m m.2.2.2.2.2.2.2.2.2.2.1 h.datas (fun n hn => s44 K _ m.2.2.2.2.2.2.2.2.2.2.2.1 h.customs (fun n hn => ⟨_, rfl⟩) n hn) n hn) n hn) n hn) n hn) n hn) n hn) 0 (by omega)
  obtain ⟨b, hb⟩ := hb
  exact ⟨b, hh.trans hb, fun _ => hc⟩
end

/-! ## customs -/
theorem rng_toB {β : Type} (l : List β) (k : Int) : rng l 0 k = l.take k.toNat := by
  unfold rng
  simp
abbrev Cu := (List UInt8) × (List (Int)) × Unit
def claimsName : List UInt8 := [116, 114, 97, 109, 109, 101, 108, 46, 99, 108, 97, 105, 109, 115]
def isC (c : Cu) : Bool := c.1 == claimsName
def others (l : List Cu) : List Cu := l.filter fun c => !isC c
/-- the place of the first one, from a place on -/
def firstC (i : Nat) : List Cu → Int
  | [] => -1
  | c :: l => if isC c = true then (i : Int) else firstC (i + 1) l
theorem firstC_cases : ∀ (l : List Cu) (i : Nat), (firstC i l = -1 ∧ others l = l) ∨ (∃ k, k < l.length ∧ firstC i l = ((i + k : Nat) : Int) ∧ (∃ h : k < l.length, isC l[k] = true) ∧ others (l.take k) = l.take k)
  | [], i => .inl ⟨rfl, rfl⟩
  | c :: l, i => by
    unfold firstC
    cases hc : isC c with
    | true =>
      rw [if_pos rfl]
      exact .inr ⟨0, by simp, by simp, ⟨by simp, hc⟩, rfl⟩
    | false =>
      rw [if_neg (by simp)]
      rcases firstC_cases l (i + 1) with ⟨h1, h2⟩ | ⟨k, h1, h2, ⟨h3, h4⟩, h5⟩
      · refine .inl ⟨h1, ?_⟩
        unfold others at h2 ⊢
        rw [List.filter_cons, hc]
        simp only [Bool.not_false, if_true, h2]
      · refine .inr ⟨k + 1, by simp; omega, by rw [h2]; congr 1; omega, ⟨by simp; omega, by simpa using h4⟩, ?_⟩
        unfold others at h5 ⊢
        rw [List.take_succ_cons, List.filter_cons, hc]
        simp only [Bool.not_false, if_true, h5]
theorem firstC_none {l : List Cu} (h : ∀ c ∈ l, isC c = false) (i : Nat) : firstC i l = -1 := by
  rcases firstC_cases l i with ⟨h1, _⟩ | ⟨k, _, _, ⟨h3, h4⟩, _⟩
  · exact h1
  · rw [h _ (List.getElem_mem h3)] at h4; cases h4
theorem others_no (l : List Cu) : ∀ c ∈ others l, isC c = false := fun c hc => by
  unfold others at hc
  have := (List.mem_filter.1 hc).2
  simpa using this
theorem firstC_app : ∀ (l : List Cu) (c : Cu) (i : Nat), (∀ c ∈ l, isC c = false) → isC c = true → firstC i (l ++ [c]) = ((i + l.length : Nat) : Int)
  | [], c, i, _, hc => by simp [firstC, hc]
  | x :: l, c, i, h, hc => by
    have hx := h x (by simp)
    simp only [List.cons_append, firstC, hx]
    rw [if_neg (by simp), firstC_app l c (i + 1) (fun y hy => h y (by simp [hy])) hc]
    simp only [List.length_cons]
    congr 1
    omega

section
variable {R : Type}
theorem is_eq (c : Cu) (K : Bool → Option R) : p_cert_is c K = K (isC c) := rfl

theorem ixl (kr : Int → Option R) (kx : Option R) (l : List Cu) (hl : l.length ≤ 1000000) : ∀ (n i : Nat), i ≤ l.length → l.length - i < n →
    loopN (B_slices_IndexFunc_Customg52_2 kr kx) n ⟨l, l.length, i⟩ = if firstC i (l.drop i) < 0 then kx else kr (firstC i (l.drop i)) := by
  intro n
  induction n with
  | zero => intro i _ h; omega
  | succ n ih =>
    intro i hi hn
    rw [loop_succ]
    generalize loopN (B_slices_IndexFunc_Customg52_2 kr kx) n = rec at ih ⊢
    unfold B_slices_IndexFunc_Customg52_2
    simp only [cond_dec, cond_inB]
    by_cases h : i = l.length
    · rw [if_neg (by omega), List.drop_eq_nil_of_le (by omega)]
      rfl
    · have hi' : i < l.length := by omega
      have hg : l.getD i (([] : List UInt8), (([] : List (Int)), ())) = l[i] := by simp [List.getD, hi']
      rw [if_pos (by omega), if_pos (by omega), Int.toNat_natCast, hg, is_eq, List.drop_eq_getElem_cons hi']
      unfold firstC
      cases hc : isC l[i] with
      | true =>
        rw [cond_true, if_pos rfl, if_neg (by omega)]
      | false =>
        simp only [cond_false, Bool.false_eq_true, if_false]
        rw [w_i64 (by omega), show ((i : Int) + 1) = ((i + 1 : Nat) : Int) by omega]
        exact ih (i + 1) (by omega) (by omega)
theorem index_eq (l : List Cu) (K : Int → Option R) (hl : l.length ≤ 1000000) : p_slices_IndexFunc_Customg52 l K = K (firstC 0 l) := by
  unfold p_slices_IndexFunc_Customg52 fuel_slices_IndexFunc_Customg52_2
  refine Eq.trans (ixl _ _ l hl fuel64 0 (by omega) (lt_fuel (by omega))) ?_
  rw [List.drop_zero]
  rcases firstC_cases l 0 with ⟨h1, _⟩ | ⟨k, _, h2, _, _⟩
  · rw [h1]; rfl
  · rw [h2, if_neg (by omega)]

theorem clone_eq (l : List Cu) (K : List Cu → Option R) (h : l.length ≤ most) : p_slices_Clone_Custom l K = K l := by
  unfold p_slices_Clone_Custom
  simp only [List.replicate_zero, List.nil_append, cond_dec, List.length_nil, Nat.zero_add]
  rw [if_pos h]
  cases l with
  | nil => simp [both_self]
  | cons x l => simp

theorem del_loop (kx : List Cu → Int → Option R) (N : Nat) (hN : N ≤ 1000000) : ∀ (n i j : Nat) (x : List Cu), x.length = N → i < j → j ≤ N → N - j < n →
    ∃ (x' : List Cu) (i' : Nat), loopN (B_slices_DeleteFunc_Customg52_5 kx) n ⟨x, i, j⟩ = kx x' i' ∧ x'.length = N ∧ i' ≤ N ∧ x'.take i' = x.take i ++ others (x.drop j) := by
  intro n
  induction n with
  | zero => intro i j x _ _ _ h; omega
  | succ n ih =>
    intro i j x hx hij hj hn
    rw [loop_succ]
    generalize hrec : loopN (B_slices_DeleteFunc_Customg52_5 kx) n = rec at ih ⊢
    unfold B_slices_DeleteFunc_Customg52_5
    simp only [cond_dec, cond_inB, cond_not]
    by_cases h : j = N
    · rw [if_neg (by omega), List.drop_eq_nil_of_le (by omega)]
      exact ⟨x, i, rfl, hx, by omega, by simp [others]⟩
    · have hj' : j < x.length := by omega
      have hg : x.getD j (([] : List UInt8), (([] : List (Int)), ())) = x[j] := by simp [List.getD, hj']
      rw [if_pos (by omega), if_pos (by omega), Int.toNat_natCast, hg, is_eq, List.drop_eq_getElem_cons hj']
      have hj1 : IntKind.i64.wrap ((j : Int) + 1) = ((j + 1 : Nat) : Int) := by rw [w_i64 (by omega)]; rfl
      have hi1 : IntKind.i64.wrap ((i : Int) + 1) = ((i + 1 : Nat) : Int) := by rw [w_i64 (by omega)]; rfl
      cases hc : isC x[j] with
      | true =>
        rw [cond_true, hj1]
        obtain ⟨x', i', q1, q2, q3, q4⟩ := ih i (j + 1) x hx (by omega) (by omega) (by omega)
        refine ⟨x', i', q1, q2, q3, ?_⟩
        rw [q4]
        unfold others
        rw [List.filter_cons, hc]
        simp
      | false =>
        rw [cond_false, if_pos (by omega), hj1, hi1, Int.toNat_natCast]
        obtain ⟨x', i', q1, q2, q3, q4⟩ := ih (i + 1) (j + 1) (x.set i x[j]) (by rw [List.length_set]; exact hx) (by omega) (by omega) (by omega)
        refine ⟨x', i', q1, q2, q3, ?_⟩
        rw [q4, List.drop_set_of_lt (by omega), List.take_succ_eq_append_getElem (by rw [List.length_set]; omega), List.take_set_of_le (by omega), List.getElem_set_self]
        unfold others
        rw [List.filter_cons, hc]
        simp

theorem delete_eq (l : List Cu) (K : List Cu → Option R) (hl : l.length ≤ 1000000) : p_slices_DeleteFunc_Customg52 l K = K (others l) := by
  unfold p_slices_DeleteFunc_Customg52 fuel_slices_DeleteFunc_Customg52_5
  rw [index_eq l _ hl]
  simp only [cond_eq]
  rcases firstC_cases l 0 with ⟨h1, h2⟩ | ⟨k, h1, h2, ⟨h3, h4⟩, h5⟩
  · rw [h1, if_pos rfl, h2]
  · rw [h2, Nat.zero_add, if_neg (by omega), w_i64 (by omega), show ((k : Int) + 1) = ((k + 1 : Nat) : Int) by omega]
    obtain ⟨x', i', q1, q2, q3, q4⟩ := del_loop (fun w4 w5 =>
      cond (inR w5 ((List.length w4 : Nat) : Int) (List.length w4)) (cond (inR w5 ((List.length w4 : Nat) : Int) (List.length w4))
      (cond (inR (0 : Int) w5 (List.length (wrL w4 w5.toNat (List.replicate (((List.length w4 : Nat) : Int).toNat - w5.toNat) (([] : List UInt8), (([] : List (Int)), ()))))))
      (K (rng (wrL w4 w5.toNat (List.replicate (((List.length w4 : Nat) : Int).toNat - w5.toNat) (([] : List UInt8), (([] : List (Int)), ())))) (0 : Int) w5)) none) none) none) l.length hl fuel64 k (k + 1) l rfl (by omega) (by omega) (lt_fuel (by omega))
    refine Eq.trans q1 ?_
    have hw : (wrL x' i' (List.replicate (x'.length - i') (([] : List UInt8), (([] : List (Int)), ())))).length = x'.length := wrL_len (by simp; omega)
    simp only [cond_inR, Int.toNat_natCast]
    rw [if_pos (by omega), if_pos (by omega), if_pos (by rw [hw]; omega), rng_toB, Int.toNat_natCast]
    congr 1
    unfold wrL
    rw [List.take_append_of_le_length (by rw [List.length_take]; omega), List.take_take, Nat.min_self, q4]
    have e1 : l = l.take k ++ (l[k] :: l.drop (k + 1)) := by rw [← List.drop_eq_getElem_cons h3, List.take_append_drop]
    conv => rhs; rw [e1]
    unfold others at h5 ⊢
    rw [List.filter_append, h5, List.filter_cons, h4]
    simp

def setCs (m : It10) (l : List Cu) : It10 := (m.1, (m.2.1, (m.2.2.1, (m.2.2.2.1, (m.2.2.2.2.1, (m.2.2.2.2.2.1, (m.2.2.2.2.2.2.1, (m.2.2.2.2.2.2.2.1, (m.2.2.2.2.2.2.2.2.1, (m.2.2.2.2.2.2.2.2.2.1, (m.2.2.2.2.2.2.2.2.2.2.1, (l, m.2.2.2.2.2.2.2.2.2.2.2.2))))))))))))
def csOf (m : It10) : List Cu := m.2.2.2.2.2.2.2.2.2.2.2.1
def zeroM : It10 := ([], ([], ([], ([], ([], ([], ([], ([], ([], ([], ([], ([], ()))))))))))))

theorem LensOk.set {m : It10} (h : LensOk m) {l : List Cu} (hl : l.length ≤ 9223372036854775807) : LensOk (setCs m l) :=
  ⟨h.types, h.type, h.imports, h.funcs, h.func, h.tables, h.mems, h.globals, h.global, h.exports, h.starts, h.elems, h.elem, h.counts, h.datas, h.data, hl⟩
theorem LensOk.zero : LensOk zeroM := by
  refine ⟨?_, ?_, ?_, ?_, ?_, ?_, ?_, ?_, ?_, ?_, ?_, ?_, ?_, ?_, ?_, ?_, ?_⟩ <;> simp [zeroM]

theorem strip_eq (m : It10) (K : It10 → Option R) (h : (csOf m).length ≤ 1000000) : p_cert_Strip m K = K (setCs m (others (csOf m))) := by
  have hmost : most = 4294967296 := rfl
  unfold p_cert_Strip
  show p_slices_Clone_Custom (csOf m) _ = _
  rw [clone_eq _ _ (by omega), delete_eq _ _ h]
  rfl

/-- what Of says -/
def ofS (l : List Cu) : List Cl × Bool := if firstC 0 l < 0 then ([], false) else ((readS (l.getD (firstC 0 l).toNat ([], ([], ()))).2.1).1, (readS (l.getD (firstC 0 l).toNat ([], ([], ()))).2.1).2 == 0)

theorem read_eq' (b : List Int) (K : List Cl → Int → Option R) (hb : bytes b) : p_cert_Read b K = K (readS b).1 (readS b).2 := by
  by_cases h : b.length > 65536
  · unfold p_cert_Read readS
    simp only [cond_dec]
    rw [if_pos h, if_pos (show (b.length : Int) > 65536 by omega)]
  · exact read_eq b K hb (by omega)

theorem of_eq (m : It10) (K : List Cl → Bool → Option R) (h : (csOf m).length ≤ 1000000) (hb : ∀ c ∈ csOf m, bytes c.2.1) : p_cert_Of m K = K (ofS (csOf m)).1 (ofS (csOf m)).2 := by
  unfold p_cert_Of
  show p_slices_IndexFunc_Customg52 (csOf m) _ = _
  rw [index_eq _ _ h]
  unfold ofS
  simp only [cond_dec, cond_inB]
  by_cases h0 : firstC 0 (csOf m) < 0
  · rw [if_pos h0, if_pos h0]
  · rw [if_neg h0, if_neg h0]
    rcases firstC_cases (csOf m) 0 with ⟨h1, _⟩ | ⟨k, h1, h2, ⟨h3, h4⟩, _⟩
    · omega
    · have hg : (csOf m).getD (firstC 0 (csOf m)).toNat (([] : List UInt8), (([] : List (Int)), ())) = (csOf m)[k] := by
        rw [h2]
        simp [List.getD, h3]
      rw [if_pos (by rw [h2]; constructor; omega; show _ < ((csOf m).length : Int); omega)]
      show p_cert_Read ((csOf m).getD _ _).2.1 _ = _
      rw [hg, read_eq' _ _ (hb _ (List.getElem_mem h3))]

theorem with_eq (m : It10) (l : List Cl) (K : It10 → Int → Option R) (h : (csOf m).length ≤ 1000000) (hok : okM l) (hl : (numsM l).length ≤ 100000000) : p_cert_With m l K = if (putS l).2 = 0 then K (setCs m (others (csOf m) ++ [(claimsName, ((putS l).1, ()))])) 0 else K zeroM (putS l).2 := by
  have hmost : most = 4294967296 := rfl
  unfold p_cert_With
  rw [put_eq l _ hok hl]
  simp only [cond_ne]
  by_cases he : (putS l).2 = 0
  · rw [if_pos he, if_pos he, strip_eq m _ h]
    have hlen : (others (csOf m)).length ≤ (csOf m).length := List.length_filter_le _ _
    simp only [cond_dec]
    rw [if_pos (by show (others (csOf m)).length + 1 ≤ _; omega)]
    rfl
  · rw [if_neg he, if_neg he]
    rfl

theorem law10 (kx : List Cl → It10 → It10 → Bool → List Cu → Int → Option R) (a1 : List Cl) (m s : It10) (ok : Bool) (hl : (csOf m).length ≤ 1000000) : ∀ (n i : Nat) (acc : List Cu) (f : Int), i ≤ (csOf m).length → (csOf m).length - i < n → acc.length ≤ i →
    loopN (B_law21_CertModule_10 kx) n ⟨a1, m, s, ok, acc, f, i⟩ = kx a1 m s ok (acc ++ others ((csOf m).drop i)) (if f < 0 then (if firstC i ((csOf m).drop i) < 0 then f else firstC i ((csOf m).drop i)) else f) := by
  intro n
  induction n with
  | zero => intro i _ _ _ h; omega
  | succ n ih =>
    intro i acc f hi hn hacc
    have hmost : most = 4294967296 := rfl
    rw [loop_succ]
    generalize loopN (B_law21_CertModule_10 kx) n = rec at ih ⊢
    unfold B_law21_CertModule_10
    have hcs : m.2.2.2.2.2.2.2.2.2.2.2.1 = csOf m := rfl
    simp only [cond_dec, cond_inB, cond_not, hcs]
    by_cases h : i = (csOf m).length
    · rw [if_neg (by omega), List.drop_eq_nil_of_le (by omega)]
      simp [others, firstC]
    · have hi' : i < (csOf m).length := by omega
      have hg : (csOf m).getD i (([] : List UInt8), (([] : List (Int)), ())) = (csOf m)[i] := by simp [List.getD, hi']
      rw [if_pos (by omega), if_pos (by omega), Int.toNat_natCast, hg, List.drop_eq_getElem_cons hi']
      have hi1 : IntKind.i64.wrap ((i : Int) + 1) = ((i + 1 : Nat) : Int) := by rw [w_i64 (by omega)]; rfl
      rw [hi1]
      show cond (isC (csOf m)[i]) _ _ = _
      unfold firstC others
      rw [List.filter_cons]
      cases hc : isC (csOf m)[i] with
      | true =>
        rw [cond_true]
        simp only [Bool.not_true, Bool.false_eq_true, if_false, if_true]
        rw [if_neg (show ¬ (i : Int) < 0 by omega)]
        by_cases hf : f < 0
        · rw [if_pos hf, if_pos hf, ih (i + 1) acc i (by omega) (by omega) (by omega), if_neg (by omega)]
          rfl
        · rw [if_neg hf, if_neg hf, ih (i + 1) acc f (by omega) (by omega) (by omega), if_neg hf]
          rfl
      | false =>
        rw [cond_false]
        simp only [Bool.not_false, if_true, Bool.false_eq_true, if_false]
        have hset : (List.replicate 1 (([] : List UInt8), (([] : List (Int)), ()))).set 0 (csOf m)[i] = [(csOf m)[i]] := rfl
        rw [if_pos (by omega), hset, if_pos (by simp only [List.length_cons, List.length_nil]; omega), ih (i + 1) (acc ++ [(csOf m)[i]]) f (by omega) (by omega) (by simp; omega), List.append_assoc]
        rfl
end
end Go.Trm.G1
