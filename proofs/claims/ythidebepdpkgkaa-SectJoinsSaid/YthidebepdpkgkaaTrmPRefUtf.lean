import Derived.Test.YthidebepdpkgkaaTrmPUtf
set_option linter.unusedVariables false
set_option linter.unusedSimpArgs false
namespace Go.Trm.G1

theorem p28_eq {R : Type} (c : Int) (K : Int → Option R) : p_ref02_size c K =
    if c < 128 then K 1 else if c < 192 then K 0 else if c < 224 then K 2 else if c < 240 then K 3 else if c < 248 then K 4 else K 0 := by
  unfold p_ref02_size
  simp only [cond_dec]
  rcases (by omega : c < 128 ∨ (128 ≤ c ∧ c < 192) ∨ (192 ≤ c ∧ c < 224) ∨ (224 ≤ c ∧ c < 240) ∨ (240 ≤ c ∧ c < 248) ∨ 248 ≤ c) with h | h | h | h | h | h
  all_goals simp (disch := omega) only [↓if_pos, ↓if_neg]

/-- two rows are the same -/
theorem l21 {R : Type} (kr : Bool → Option R) (ke : Option R) (a b : List Int) (hab : a.length = b.length) (ha : a.length ≤ 4611686018427387904) : ∀ (n i : Nat), i ≤ a.length → a.length - i < n →
    loopN (B_ref01_Same_4 kr ke) n ⟨a, b, i⟩ = if a.drop i = b.drop i then ke else kr false := by
  intro n
  induction n with
  | zero => intro i _ h; omega
  | succ n ih =>
    intro i hi hn
    rw [loop_succ]
    generalize loopN (B_ref01_Same_4 kr ke) n = rec at ih ⊢
    unfold B_ref01_Same_4
    simp only [cond_dec, cond_inB, cond_ne]
    by_cases h : i = a.length
    · rw [if_neg (by omega), List.drop_eq_nil_of_le (by omega), List.drop_eq_nil_of_le (by omega), if_pos rfl]
    · have hia : i < a.length := by omega
      have hib : i < b.length := by omega
      have e : ((i : Int)).toNat = i := Int.toNat_natCast i
      rw [if_pos (by omega), if_pos (by omega), if_pos (by omega), e, w_i64 (by omega), List.drop_eq_getElem_cons hia, List.drop_eq_getElem_cons hib]
      have ga : a.getD i 0 = a[i] := by simp [List.getD, hia]
      have gb : b.getD i 0 = b[i] := by simp [List.getD, hib]
      rw [ga, gb]
      have := ih (i + 1) (by omega) (by omega)
      rw [show ((i : Int) + 1) = ((i + 1 : Nat) : Int) by omega, this]
      by_cases h1 : a[i] = b[i]
      · rw [if_pos h1, h1]
        by_cases h2 : a.drop (i + 1) = b.drop (i + 1)
        · rw [if_pos h2, h2, if_pos rfl]
        · rw [if_neg h2, if_neg (by intro hc; exact h2 (List.cons.inj hc).2)]
      · rw [if_neg h1, if_neg (by intro hc; exact h1 (List.cons.inj hc).1)]

theorem p21_eq {R : Type} (a b : List Int) (K : Bool → Option R) (ha : a.length ≤ 4611686018427387904) : p_ref01_Same a b K = if a = b then K true else K false := by
  unfold p_ref01_Same
  simp only [cond_ne]
  by_cases h : a.length = b.length
  · rw [if_pos (by omega)]
    have := l21 K (K true) a b h ha fuel64 0 (by omega) (lt_fuel (by omega))
    rw [List.drop_zero, List.drop_zero] at this
    exact this
  · rw [if_neg (by omega), if_neg (by rintro rfl; exact h rfl)]

/-- a character's bytes -/
def form (c : Int) : List Int :=
  if c < 128 then [c] else if c < 2048 then [192 + c / 64, 128 + c % 64] else if c < 65536 then [224 + c / 4096, 128 + c / 64 % 64, 128 + c % 64]
  else [240 + c / 262144, 128 + c / 4096 % 64, 128 + c / 64 % 64, 128 + c % 64]

theorem p29_eq {R : Type} (c : Int) (K : List Int → Option R) (h0 : 0 ≤ c) (h1 : c ≤ 1114111) : p_ref02_form c K = K (form c) := by
  unfold p_ref02_form form
  simp only [cond_dec, cond_ne]
  have d1 : Int.tdiv c 64 = c / 64 := Int.tdiv_eq_ediv_of_nonneg h0
  have d2 : Int.tdiv c 4096 = c / 4096 := Int.tdiv_eq_ediv_of_nonneg h0
  have d3 : Int.tdiv c 262144 = c / 262144 := Int.tdiv_eq_ediv_of_nonneg h0
  have m1 : Int.tmod c 64 = c % 64 := Int.tmod_eq_emod_of_nonneg h0
  have m2 : Int.tmod (c / 64) 64 = c / 64 % 64 := Int.tmod_eq_emod_of_nonneg (by omega)
  have m3 : Int.tmod (c / 4096) 64 = c / 4096 % 64 := Int.tmod_eq_emod_of_nonneg (by omega)
  rw [d1, d2, d3, m1]
  rw [w_i64 (n := c / 64) (by omega), w_i64 (n := c / 4096) (by omega), w_i64 (n := c / 262144) (by omega), m2, m3]
  rw [w_i64 (n := 192 + c / 64) (by omega), w_i64 (n := 128 + c % 64) (by omega), w_i64 (n := 224 + c / 4096) (by omega), w_i64 (n := 128 + c / 64 % 64) (by omega), w_i64 (n := 240 + c / 262144) (by omega), w_i64 (n := 128 + c / 4096 % 64) (by omega)]
  rw [w_u8 (n := 128 + c % 64) (by omega), w_u8 (n := 128 + c / 64 % 64) (by omega), w_u8 (n := 128 + c / 4096 % 64) (by omega), w_u8 (n := 240 + c / 262144) (by omega)]
  by_cases k1 : c < 128
  · rw [if_pos k1, if_pos k1, w_u8 (by omega)]; rfl
  · rw [if_neg k1, if_neg k1]
    by_cases k2 : c < 2048
    · rw [if_pos k2, if_pos k2, w_u8 (by omega)]; rfl
    · rw [if_neg k2, if_neg k2]
      by_cases k3 : c < 65536
      · rw [if_pos k3, if_pos k3, w_u8 (by omega)]; rfl
      · rw [if_neg k3, if_neg k3]; rfl

section
variable {R : Type} (kx : List Int → Int → Int → Int → List Int → Int → Bool → Option R) (l : List Int)
theorem jn0 (m : Nat) (n c j g19 : Int) (g20 : List Int) (g21 : Int) (g22 : Bool) (h : n ≤ j) :
    loopN (B_ref02_Valid_8 kx) (m + 1) ⟨l, n, c, j, g19, g20, g21, g22⟩ = kx l n c g19 g20 g21 g22 := by
  rw [loop_succ]
  unfold B_ref02_Valid_8
  simp only [cond_dec]
  rw [if_neg (by omega)]
theorem jn1 (m : Nat) (n c j d g19 : Int) (g20 : List Int) (g21 : Int) (g22 : Bool) (h : j < n) (h1 : 0 ≤ j) (hn : n ≤ l.length) (hd : l.getD j.toNat 0 = d) (hd0 : 0 ≤ d) (hd1 : d ≤ 255) (hc : 0 ≤ c ∧ c ≤ 1000000) (hj : j ≤ 10) :
    loopN (B_ref02_Valid_8 kx) (m + 1) ⟨l, n, c, j, g19, g20, g21, g22⟩ = loopN (B_ref02_Valid_8 kx) m ⟨l, n, c * 64 + d % 64, j + 1, g19, g20, g21, g22⟩ := by
  rw [loop_succ]
  unfold B_ref02_Valid_8
  simp only [cond_dec, cond_inB, cond_ne]
  rw [if_pos h, if_pos (by omega), if_neg (by omega), hd, w_i64 (n := d) (by omega), Int.tmod_eq_emod_of_nonneg hd0, w_i64 (n := c * 64) (by omega), w_i64 (by omega), w_i64 (by omega)]
end

/-- what is asked of a character, and of its bytes -/
def okc (c : Int) (f : List Int) : Bool := decide (c ≤ 1114111) && (decide (c < 55296 ∨ 57343 < c) && decide (form c = f))

theorem ok1 (c0 : Int) (h : 0 ≤ c0) (h1 : c0 < 128) : okc c0 [c0] = true := by
  unfold okc form
  rw [if_pos h1]
  simp; omega
theorem ok2 (c0 c1 : Int) (h : 192 ≤ c0) (h1 : c0 < 224) (h2 : 0 ≤ c1 ∧ c1 ≤ 255) : okc (c0 % 32 * 64 + c1 % 64) [c0, c1] = decide (194 ≤ c0 ∧ 128 ≤ c1 ∧ c1 ≤ 191) := by
  unfold okc form
  by_cases k1 : c0 % 32 * 64 + c1 % 64 < 128
  · rw [if_pos k1]
    simp; omega
  · rw [if_neg k1, if_pos (by omega)]
    simp only [List.cons.injEq, and_true]
    rw [Bool.eq_iff_iff]
    simp only [Bool.and_eq_true, decide_eq_true_eq]
    omega
theorem ok3 (c0 c1 c2 : Int) (h : 224 ≤ c0) (h1 : c0 < 240) (h2 : 0 ≤ c1 ∧ c1 ≤ 255) (h3 : 0 ≤ c2 ∧ c2 ≤ 255) : okc ((c0 % 16 * 64 + c1 % 64) * 64 + c2 % 64) [c0, c1, c2] =
    decide ((if c0 = 224 then 160 else 128) ≤ c1 ∧ c1 ≤ (if c0 = 237 then 159 else 191) ∧ 128 ≤ c2 ∧ c2 ≤ 191) := by
  unfold okc form
  rw [Bool.eq_iff_iff]
  simp only [Bool.and_eq_true, decide_eq_true_eq]
  by_cases k1 : (c0 % 16 * 64 + c1 % 64) * 64 + c2 % 64 < 128
  · rw [if_pos k1]
    simp only [List.cons.injEq, reduceCtorEq, and_false, false_iff]
    split <;> omega
  · rw [if_neg k1]
    by_cases k2 : (c0 % 16 * 64 + c1 % 64) * 64 + c2 % 64 < 2048
    · rw [if_pos k2]
      simp only [List.cons.injEq, reduceCtorEq, and_false, false_iff]
      split <;> omega
    · rw [if_neg k2, if_pos (by omega)]
      simp only [List.cons.injEq, and_true]
      split <;> split <;> omega
theorem ok4 (c0 c1 c2 c3 : Int) (h : 240 ≤ c0) (h1 : c0 < 248) (h2 : 0 ≤ c1 ∧ c1 ≤ 255) (h3 : 0 ≤ c2 ∧ c2 ≤ 255) (h4 : 0 ≤ c3 ∧ c3 ≤ 255) : okc (((c0 % 8 * 64 + c1 % 64) * 64 + c2 % 64) * 64 + c3 % 64) [c0, c1, c2, c3] =
    decide (c0 ≤ 244 ∧ (if c0 = 240 then 144 else 128) ≤ c1 ∧ c1 ≤ (if c0 = 244 then 143 else 191) ∧ 128 ≤ c2 ∧ c2 ≤ 191 ∧ 128 ≤ c3 ∧ c3 ≤ 191) := by
  unfold okc form
  rw [Bool.eq_iff_iff]
  simp only [Bool.and_eq_true, decide_eq_true_eq]
  generalize hc : ((c0 % 8 * 64 + c1 % 64) * 64 + c2 % 64) * 64 + c3 % 64 = c
  by_cases k1 : c < 128
  · rw [if_pos k1]
    simp only [List.cons.injEq, reduceCtorEq, and_false, false_iff]
    split <;> omega
  · rw [if_neg k1]
    by_cases k2 : c < 2048
    · rw [if_pos k2]
      simp only [List.cons.injEq, reduceCtorEq, and_false, false_iff]
      split <;> omega
    · rw [if_neg k2]
      by_cases k3 : c < 65536
      · rw [if_pos k3]
        simp only [List.cons.injEq, reduceCtorEq, and_false, false_iff]
        split <;> omega
      · rw [if_neg k3]
        simp only [List.cons.injEq, and_true]
        split <;> split <;> omega

theorem rng_take (l : List Int) (n : Nat) : rng l 0 n = l.take n := by simp [rng]
theorem rng_drop (l : List Int) (n : Nat) : rng l n l.length = l.drop n := by simp [rng]

/-- the end of a round -/
theorem fin12 {R : Type} (kr : Bool → Option R) (rec : X_ref02_Valid_2 → Option R) (l : List Int) (n : Nat) (c : Int) (hn : n ≤ l.length) (hl : l.length ≤ 4611686018427387904) (h0 : 0 ≤ c) (hc : c ≤ 3000000) :
    (if c > 1114111 then kr false else if c ≥ 55296 then (if c ≤ 57343 then kr false else (if (0 : Int) ≤ 0 ∧ (0 : Int) ≤ (n : Int) ∧ (n : Int) ≤ (l.length : Int) then p_ref02_form c fun r => p_ref01_Same r (rng l 0 (n : Int)) fun r => bif r then (if (0 : Int) ≤ (n : Int) ∧ (n : Int) ≤ (l.length : Int) ∧ (l.length : Int) ≤ (l.length : Int) then rec ⟨rng l (n : Int) (l.length : Int)⟩ else none) else kr false else none)) else (if (0 : Int) ≤ 0 ∧ (0 : Int) ≤ (n : Int) ∧ (n : Int) ≤ (l.length : Int) then p_ref02_form c fun r => p_ref01_Same r (rng l 0 (n : Int)) fun r => bif r then (if (0 : Int) ≤ (n : Int) ∧ (n : Int) ≤ (l.length : Int) ∧ (l.length : Int) ≤ (l.length : Int) then rec ⟨rng l (n : Int) (l.length : Int)⟩ else none) else kr false else none)) = if okc c (l.take n) = true then rec ⟨l.drop n⟩ else kr false := by
  simp only [rng_take, rng_drop]
  by_cases h1 : c > 1114111
  · rw [if_pos h1, if_neg (by unfold okc; simp; omega)]
  · rw [if_neg h1, p29_eq _ _ h0 (by omega), if_pos (show (0 : Int) ≤ 0 ∧ (0 : Int) ≤ (n : Int) ∧ (n : Int) ≤ (l.length : Int) by omega)]
    have hf : (form c).length ≤ 4611686018427387904 := by
      unfold form
      split
      · simp
      · split
        · simp
        · split <;> simp
    rw [p21_eq _ _ _ hf]
    simp only [cond_true, cond_false]
    rw [if_pos (show (0 : Int) ≤ (n : Int) ∧ (n : Int) ≤ (l.length : Int) ∧ (l.length : Int) ≤ (l.length : Int) by omega)]
    by_cases h2 : c ≥ 55296 ∧ c ≤ 57343
    · rw [if_pos h2.1, if_pos h2.2, if_neg (by unfold okc; simp; omega)]
    · by_cases h3 : form c = l.take n
      · rw [if_pos h3, if_pos (show okc c (l.take n) = true by unfold okc; rw [decide_eq_true h3]; simp; omega)]
        split
        · rw [if_neg (by omega)]
        · rfl
      · rw [if_neg h3, if_neg (show ¬ okc c (l.take n) = true by unfold okc; rw [decide_eq_false h3]; simp)]
        split
        · rw [if_neg (by omega)]
        · rfl

/-- the document's Valid -/
theorem l12 {R : Type} (kr : Bool → Option R) (ke : Option R) : ∀ (n : Nat) (l : List Int), (∀ i, 0 ≤ l.getD i 0 ∧ l.getD i 0 ≤ 255) → l.length ≤ 4611686018427387904 → l.length < n →
    loopN (B_ref02_Valid_2 kr ke) n ⟨l⟩ = if valid l = true then ke else kr false := by
  intro n
  induction n with
  | zero => intro l _ _ h; omega
  | succ n ih =>
    intro l hb hl hn
    rw [loop_succ]
    generalize loopN (B_ref02_Valid_2 kr ke) n = rec at ih ⊢
    rcases l with _ | ⟨c0, l⟩
    · rw [valid_nil]; rfl
    · have hne : c0 :: l ≠ [] := by simp
      obtain ⟨m, hm⟩ := fuel_add 5 (by omega)
      have ih' : ∀ k, 0 < k → rec ⟨(c0 :: l).drop k⟩ = if valid ((c0 :: l).drop k) = true then ke else kr false := fun k hk => ih _ (fun i => by rw [drop_getD]; exact hb _) (by rw [List.length_drop]; omega) (by rw [List.length_drop]; simp only [List.length_cons] at hn ⊢; omega)
      have hb0 := hb 0
      simp only [List.getD_cons_zero] at hb0
      have yes : ∀ k, stp (c0 :: l) = k → 0 < k → (if valid (c0 :: l) = true then ke else kr false) = rec ⟨(c0 :: l).drop k⟩ := fun k hk h0 => by
        rw [valid_yes (by omega) hne, hk, ih' k h0]
      have no : stp (c0 :: l) = 0 → (if valid (c0 :: l) = true then ke else kr false) = kr false := fun h0 => by
        rw [valid_no hne h0]; rfl
      unfold B_ref02_Valid_2 fuel_ref02_Valid_8
      simp only [cond_dec, cond_inB, cond_inR, cond_not, cond_ne, cond_eq, p28_eq, hm]
      rw [if_pos (by simp), if_pos (by simp)]
      have hw0 : IntKind.i64.wrap c0 = c0 := w_i64 (by omega)
      simp only [show (0 : Int).toNat = 0 from rfl, List.getD_cons_zero, hw0]
      have hs : stp (c0 :: l) = stp (c0 :: l) := rfl
      conv at hs => rhs; unfold stp
      simp only [List.getD_cons_zero] at hs
      have hl1 : (((c0 :: l).length : Nat) : Int) = (l.length : Int) + 1 := by simp
      rw [hl1]
      have hl2 : l.length + 1 ≤ 4611686018427387904 := by simpa using hl
      have e0 : c0 :: l = c0 :: l := rfl
      rcases (by omega : c0 < 128 ∨ (128 ≤ c0 ∧ c0 < 192) ∨ (192 ≤ c0 ∧ c0 < 224) ∨ (224 ≤ c0 ∧ c0 < 240) ∨ (240 ≤ c0 ∧ c0 < 248) ∨ 248 ≤ c0) with h | h | h | h | h | h
      · rw [if_pos (show c0 < 128 by omega)]
        rw [if_neg (show ¬ (1 : Int) = 0 by decide), if_neg (show ¬ (1 : Int) > (l.length : Int) + 1 by omega), if_pos (show (0 : Int) ≤ 0 ∧ (0 : Int) < (l.length : Int) + 1 by omega), if_pos (show (0 : Int) ≤ 1 ∧ (1 : Int) < ((5 : Nat) : Int) by decide)]
        rw [show ((((((List.replicate 5 (0 : Int)).set 0 0).set 1 128).set 2 32).set 3 16).set 4 8).getD (Int.toNat 1) 0 = (128 : Int) from rfl, if_neg (show ¬ (128 : Int) = 0 by decide), Int.tmod_eq_emod_of_nonneg hb0.1]
        rw [jn0 (h := by omega)]
        have hf := fin12 kr rec (c0 :: l) 1 (c0 % 128) (by simp) hl (by omega) (by omega)
        refine Eq.trans (Eq.trans ?_ hf) ?_
        · simp only [hl1]; rfl
        · rw [show (c0 % 128) = c0 by omega, show (c0 :: l).take 1 = [c0] from rfl, ok1 c0 hb0.1 h, if_pos rfl]
          rw [if_pos h] at hs
          exact (yes 1 hs (by omega)).symm
      · rw [if_neg (show ¬ c0 < 128 by omega), if_pos (show c0 < 192 by omega)]
        rw [if_pos trivial]
        rw [if_neg (by omega), if_neg (by omega), if_neg (by omega), if_neg (by omega)] at hs
        exact (no hs).symm
      · rw [if_neg (show ¬ c0 < 128 by omega), if_neg (show ¬ c0 < 192 by omega), if_pos (show c0 < 224 by omega)]
        rcases l with _ | ⟨c1, l⟩
        · rw [if_neg (show ¬ (2 : Int) = 0 by decide), if_pos (show (2 : Int) > ((([] : List Int).length : Nat) : Int) + 1 by simp)]
          rw [if_neg (by omega), if_neg (by first | omega | simp), if_neg (by first | omega | simp), if_neg (by first | omega | simp)] at hs
          exact (no hs).symm
        have hlen : (((c1 :: l).length : Nat) : Int) = l.length + 1 := by simp; try omega
        have hln : (c1 :: l).length = l.length + 1 := by simp
        have hb1 : 0 ≤ c1 ∧ c1 ≤ 255 := hb 1
        rw [hlen]
        rw [if_neg (show ¬ (2 : Int) = 0 by decide), if_neg (show ¬ (2 : Int) > (l.length : Int) + 1 + 1 by omega), if_pos (show (0 : Int) ≤ 0 ∧ (0 : Int) < (l.length : Int) + 1 + 1 by omega), if_pos (show (0 : Int) ≤ 2 ∧ (2 : Int) < ((5 : Nat) : Int) by decide)]
        rw [show ((((((List.replicate 5 (0 : Int)).set 0 0).set 1 128).set 2 32).set 3 16).set 4 8).getD (Int.toNat 2) 0 = (32 : Int) from rfl, if_neg (show ¬ (32 : Int) = 0 by decide), Int.tmod_eq_emod_of_nonneg hb0.1]
        rw [jn1 (d := c1) (h := by omega) (h1 := by omega) (hn := by simp only [List.length_cons]; omega) (hd := rfl) (hd0 := hb1.1) (hd1 := hb1.2) (hc := by omega) (hj := by omega)]
        rw [jn0 (h := by omega)]
        have hf := fin12 kr rec (c0 :: c1 :: l) 2 ((c0 % 32) * 64 + c1 % 64) (by simp) hl (by omega) (by omega)
        refine Eq.trans (Eq.trans ?_ hf) ?_
        · simp only [hl1, hlen]; rfl
        · rw [show (c0 :: c1 :: l).take 2 = [c0, c1] from rfl, ok2 c0 c1 (by omega) (by omega) hb1]
          simp only [List.getD_cons_zero, List.getD_cons_succ, List.length_cons] at hs
          simp only [decide_eq_true_eq]
          by_cases hc : 194 ≤ c0 ∧ 128 ≤ c1 ∧ c1 ≤ 191
          · rw [if_pos hc]
            rw [if_neg (by omega), if_pos ⟨hc.1, by omega, by omega, hc.2⟩] at hs
            exact (yes 2 hs (by omega)).symm
          · rw [if_neg hc]
            rw [if_neg (by omega), if_neg (fun h => hc ⟨h.1, h.2.2.2⟩), if_neg (by omega), if_neg (by omega)] at hs
            exact (no hs).symm
      · rw [if_neg (show ¬ c0 < 128 by omega), if_neg (show ¬ c0 < 192 by omega), if_neg (show ¬ c0 < 224 by omega), if_pos (show c0 < 240 by omega)]
        rcases l with _ | ⟨c1, l⟩
        · rw [if_neg (show ¬ (3 : Int) = 0 by decide), if_pos (show (3 : Int) > ((([] : List Int).length : Nat) : Int) + 1 by simp)]
          rw [if_neg (by omega), if_neg (by first | omega | simp), if_neg (by first | omega | simp), if_neg (by first | omega | simp)] at hs
          exact (no hs).symm
        rcases l with _ | ⟨c2, l⟩
        · rw [if_neg (show ¬ (3 : Int) = 0 by decide), if_pos (show (3 : Int) > ((([c1] : List Int).length : Nat) : Int) + 1 by simp)]
          rw [if_neg (by omega), if_neg (by first | omega | simp), if_neg (by first | omega | simp), if_neg (by first | omega | simp)] at hs
          exact (no hs).symm
        have hlen : (((c1 :: c2 :: l).length : Nat) : Int) = l.length + 2 := by simp; try omega
        have hln : (c1 :: c2 :: l).length = l.length + 2 := by simp
        have hb1 : 0 ≤ c1 ∧ c1 ≤ 255 := hb 1
        have hb2 : 0 ≤ c2 ∧ c2 ≤ 255 := hb 2
        rw [hlen]
        rw [if_neg (show ¬ (3 : Int) = 0 by decide), if_neg (show ¬ (3 : Int) > (l.length : Int) + 2 + 1 by omega), if_pos (show (0 : Int) ≤ 0 ∧ (0 : Int) < (l.length : Int) + 2 + 1 by omega), if_pos (show (0 : Int) ≤ 3 ∧ (3 : Int) < ((5 : Nat) : Int) by decide)]
        rw [show ((((((List.replicate 5 (0 : Int)).set 0 0).set 1 128).set 2 32).set 3 16).set 4 8).getD (Int.toNat 3) 0 = (16 : Int) from rfl, if_neg (show ¬ (16 : Int) = 0 by decide), Int.tmod_eq_emod_of_nonneg hb0.1]
        rw [jn1 (d := c1) (h := by omega) (h1 := by omega) (hn := by simp only [List.length_cons]; omega) (hd := rfl) (hd0 := hb1.1) (hd1 := hb1.2) (hc := by omega) (hj := by omega)]
        rw [jn1 (d := c2) (h := by omega) (h1 := by omega) (hn := by simp only [List.length_cons]; omega) (hd := rfl) (hd0 := hb2.1) (hd1 := hb2.2) (hc := by omega) (hj := by omega)]
        rw [jn0 (h := by omega)]
        have hf := fin12 kr rec (c0 :: c1 :: c2 :: l) 3 (((c0 % 16) * 64 + c1 % 64) * 64 + c2 % 64) (by simp) hl (by omega) (by omega)
        refine Eq.trans (Eq.trans ?_ hf) ?_
        · simp only [hl1, hlen]; rfl
        · rw [show (c0 :: c1 :: c2 :: l).take 3 = [c0, c1, c2] from rfl, ok3 c0 c1 c2 (by omega) (by omega) hb1 hb2]
          simp only [List.getD_cons_zero, List.getD_cons_succ, List.length_cons] at hs
          simp only [decide_eq_true_eq]
          by_cases hc : (if c0 = 224 then 160 else 128) ≤ c1 ∧ c1 ≤ (if c0 = 237 then 159 else 191) ∧ 128 ≤ c2 ∧ c2 ≤ 191
          · rw [if_pos hc]
            rw [if_neg (by omega), if_neg (by omega), if_pos ⟨by omega, by omega, by omega, hc⟩] at hs
            exact (yes 3 hs (by omega)).symm
          · rw [if_neg hc]
            rw [if_neg (by omega), if_neg (by omega), if_neg (fun h => hc h.2.2.2), if_neg (by omega)] at hs
            exact (no hs).symm
      · rw [if_neg (show ¬ c0 < 128 by omega), if_neg (show ¬ c0 < 192 by omega), if_neg (show ¬ c0 < 224 by omega), if_neg (show ¬ c0 < 240 by omega), if_pos (show c0 < 248 by omega)]
        rcases l with _ | ⟨c1, l⟩
        · rw [if_neg (show ¬ (4 : Int) = 0 by decide), if_pos (show (4 : Int) > ((([] : List Int).length : Nat) : Int) + 1 by simp)]
          rw [if_neg (by omega), if_neg (by first | omega | simp), if_neg (by first | omega | simp), if_neg (by first | omega | simp)] at hs
          exact (no hs).symm
        rcases l with _ | ⟨c2, l⟩
        · rw [if_neg (show ¬ (4 : Int) = 0 by decide), if_pos (show (4 : Int) > ((([c1] : List Int).length : Nat) : Int) + 1 by simp)]
          rw [if_neg (by omega), if_neg (by first | omega | simp), if_neg (by first | omega | simp), if_neg (by first | omega | simp)] at hs
          exact (no hs).symm
        rcases l with _ | ⟨c3, l⟩
        · rw [if_neg (show ¬ (4 : Int) = 0 by decide), if_pos (show (4 : Int) > ((([c1, c2] : List Int).length : Nat) : Int) + 1 by simp)]
          rw [if_neg (by omega), if_neg (by first | omega | simp), if_neg (by first | omega | simp), if_neg (by first | omega | simp)] at hs
          exact (no hs).symm
        have hlen : (((c1 :: c2 :: c3 :: l).length : Nat) : Int) = l.length + 3 := by simp; try omega
        have hln : (c1 :: c2 :: c3 :: l).length = l.length + 3 := by simp
        have hb1 : 0 ≤ c1 ∧ c1 ≤ 255 := hb 1
        have hb2 : 0 ≤ c2 ∧ c2 ≤ 255 := hb 2
        have hb3 : 0 ≤ c3 ∧ c3 ≤ 255 := hb 3
        rw [hlen]
        rw [if_neg (show ¬ (4 : Int) = 0 by decide), if_neg (show ¬ (4 : Int) > (l.length : Int) + 3 + 1 by omega), if_pos (show (0 : Int) ≤ 0 ∧ (0 : Int) < (l.length : Int) + 3 + 1 by omega), if_pos (show (0 : Int) ≤ 4 ∧ (4 : Int) < ((5 : Nat) : Int) by decide)]
        rw [show ((((((List.replicate 5 (0 : Int)).set 0 0).set 1 128).set 2 32).set 3 16).set 4 8).getD (Int.toNat 4) 0 = (8 : Int) from rfl, if_neg (show ¬ (8 : Int) = 0 by decide), Int.tmod_eq_emod_of_nonneg hb0.1]
        rw [jn1 (d := c1) (h := by omega) (h1 := by omega) (hn := by simp only [List.length_cons]; omega) (hd := rfl) (hd0 := hb1.1) (hd1 := hb1.2) (hc := by omega) (hj := by omega)]
        rw [jn1 (d := c2) (h := by omega) (h1 := by omega) (hn := by simp only [List.length_cons]; omega) (hd := rfl) (hd0 := hb2.1) (hd1 := hb2.2) (hc := by omega) (hj := by omega)]
        rw [jn1 (d := c3) (h := by omega) (h1 := by omega) (hn := by simp only [List.length_cons]; omega) (hd := rfl) (hd0 := hb3.1) (hd1 := hb3.2) (hc := by omega) (hj := by omega)]
        rw [jn0 (h := by omega)]
        have hf := fin12 kr rec (c0 :: c1 :: c2 :: c3 :: l) 4 ((((c0 % 8) * 64 + c1 % 64) * 64 + c2 % 64) * 64 + c3 % 64) (by simp) hl (by omega) (by omega)
        refine Eq.trans (Eq.trans ?_ hf) ?_
        · simp only [hl1, hlen]; rfl
        · rw [show (c0 :: c1 :: c2 :: c3 :: l).take 4 = [c0, c1, c2, c3] from rfl, ok4 c0 c1 c2 c3 (by omega) (by omega) hb1 hb2 hb3]
          simp only [List.getD_cons_zero, List.getD_cons_succ, List.length_cons] at hs
          simp only [decide_eq_true_eq]
          by_cases hc : c0 ≤ 244 ∧ (if c0 = 240 then 144 else 128) ≤ c1 ∧ c1 ≤ (if c0 = 244 then 143 else 191) ∧ 128 ≤ c2 ∧ c2 ≤ 191 ∧ 128 ≤ c3 ∧ c3 ≤ 191
          · rw [if_pos hc]
            rw [if_neg (by omega), if_neg (by omega), if_neg (by omega), if_pos ⟨by omega, hc.1, by omega, hc.2⟩] at hs
            exact (yes 4 hs (by omega)).symm
          · rw [if_neg hc]
            rw [if_neg (by omega), if_neg (by omega), if_neg (by omega), if_neg (fun h => hc ⟨h.2.1, h.2.2.2⟩)] at hs
            exact (no hs).symm
      · rw [if_neg (show ¬ c0 < 128 by omega), if_neg (show ¬ c0 < 192 by omega), if_neg (show ¬ c0 < 224 by omega), if_neg (show ¬ c0 < 240 by omega), if_neg (show ¬ c0 < 248 by omega)]
        rw [if_pos trivial]
        rw [if_neg (by omega), if_neg (by omega), if_neg (by omega), if_neg (by omega)] at hs
        exact (no hs).symm

theorem p12_eq {R : Type} (s : List UInt8) (K : Bool → Option R) (h : s.length ≤ most) : p_ref02_Valid s K = if valid (nums s) = true then K true else K false := by
  unfold p_ref02_Valid
  simp only [cond_dec]
  rw [if_pos h]
  unfold most at h
  exact l12 K (K true) fuel64 (nums s) (nums_get s) (by rw [nums_len]; omega) (lt_fuel (by rw [nums_len]; omega))

end Go.Trm.G1
