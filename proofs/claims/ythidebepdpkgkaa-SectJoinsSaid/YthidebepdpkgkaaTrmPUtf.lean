import Derived.Test.YthidebepdpkgkaaTrmPlain
import Derived.Test.YthidebepdpkgkaaTrmG1
set_option linter.unusedVariables false
set_option linter.unusedSimpArgs false
namespace Go.Trm.G1

/-- how long the character at the head is; 0: there is none -/
def stp (l : List Int) : Nat :=
  let c0 := l.getD 0 0
  let c1 := l.getD 1 0
  let c2 := l.getD 2 0
  let c3 := l.getD 3 0
  if c0 < 128 then 1
  else if 194 ≤ c0 ∧ c0 ≤ 223 ∧ 2 ≤ l.length ∧ 128 ≤ c1 ∧ c1 ≤ 191 then 2
  else if 224 ≤ c0 ∧ c0 ≤ 239 ∧ 3 ≤ l.length ∧ (if c0 = 224 then 160 else 128) ≤ c1 ∧ c1 ≤ (if c0 = 237 then 159 else 191) ∧ 128 ≤ c2 ∧ c2 ≤ 191 then 3
  else if 240 ≤ c0 ∧ c0 ≤ 244 ∧ 4 ≤ l.length ∧ (if c0 = 240 then 144 else 128) ≤ c1 ∧ c1 ≤ (if c0 = 244 then 143 else 191) ∧ 128 ≤ c2 ∧ c2 ≤ 191 ∧ 128 ≤ c3 ∧ c3 ≤ 191 then 4
  else 0

/-- characters -/
def valid (l : List Int) : Bool := if h : l = [] then true else if h2 : stp l = 0 then false else valid (l.drop (stp l))
termination_by l.length
decreasing_by
  have : l.length ≠ 0 := fun hc => h (List.eq_nil_of_length_eq_zero hc)
  rw [List.length_drop]; omega

theorem valid_nil : valid [] = true := by rw [valid]; simp
theorem valid_no {l : List Int} (h : l ≠ []) (h2 : stp l = 0) : valid l = false := by rw [valid]; simp [h, h2]
theorem valid_yes {l : List Int} (h2 : stp l ≠ 0) (h : l ≠ []) : valid l = valid (l.drop (stp l)) := by rw [valid]; simp [h, h2]


section
variable {R : Type} (c : Int) (K : Int → Int → Int → Bool → Option R)
theorem t27_1 (h : c < 128) : p_utf_tail c K = K 0 0 0 true := by
  unfold p_utf_tail
  simp only [cond_dec, cond_eq]
  rw [if_pos h]
theorem t27_0 (h : 128 ≤ c ∧ c < 194) : p_utf_tail c K = K 0 0 0 false := by
  unfold p_utf_tail
  simp only [cond_dec, cond_eq]
  simp (disch := omega) only [↓if_pos, ↓if_neg]
theorem t27_2 (h : 194 ≤ c ∧ c ≤ 223) : p_utf_tail c K = K 1 128 191 true := by
  unfold p_utf_tail
  simp only [cond_dec, cond_eq]
  simp (disch := omega) only [↓if_pos, ↓if_neg]
theorem t27_3a (h : c = 224) : p_utf_tail c K = K 2 160 191 true := by
  unfold p_utf_tail
  simp only [cond_dec, cond_eq]
  simp (disch := omega) only [↓if_pos, ↓if_neg]
theorem t27_3b (h : c = 237) : p_utf_tail c K = K 2 128 159 true := by
  unfold p_utf_tail
  simp only [cond_dec, cond_eq]
  simp (disch := omega) only [↓if_pos, ↓if_neg]
theorem t27_3c (h : 224 < c ∧ c < 237) : p_utf_tail c K = K 2 128 191 true := by
  unfold p_utf_tail
  simp only [cond_dec, cond_eq]
  simp (disch := omega) only [↓if_pos, ↓if_neg]
theorem t27_3d (h : 237 < c ∧ c ≤ 239) : p_utf_tail c K = K 2 128 191 true := by
  unfold p_utf_tail
  simp only [cond_dec, cond_eq]
  simp (disch := omega) only [↓if_pos, ↓if_neg]
theorem t27_4a (h : c = 240) : p_utf_tail c K = K 3 144 191 true := by
  unfold p_utf_tail
  simp only [cond_dec, cond_eq]
  simp (disch := omega) only [↓if_pos, ↓if_neg]
theorem t27_4b (h : c = 244) : p_utf_tail c K = K 3 128 143 true := by
  unfold p_utf_tail
  simp only [cond_dec, cond_eq]
  simp (disch := omega) only [↓if_pos, ↓if_neg]
theorem t27_4c (h : 240 < c ∧ c < 244) : p_utf_tail c K = K 3 128 191 true := by
  unfold p_utf_tail
  simp only [cond_dec, cond_eq]
  simp (disch := omega) only [↓if_pos, ↓if_neg]
theorem t27_5 (h : 244 < c) : p_utf_tail c K = K 0 0 0 false := by
  unfold p_utf_tail
  simp only [cond_dec, cond_eq]
  simp (disch := omega) only [↓if_pos, ↓if_neg]
end
section
variable (l : List Int)
theorem s1 (h : l.getD 0 0 < 128) : stp l = 1 := by
  unfold stp
  dsimp only
  rw [if_pos h]
theorem s0 (h : (128 ≤ l.getD 0 0 ∧ l.getD 0 0 < 194) ∨ 244 < l.getD 0 0) : stp l = 0 := by
  unfold stp
  dsimp only
  rw [if_neg (by omega), if_neg (by omega), if_neg (by omega), if_neg (by omega)]
theorem s2 (h : 194 ≤ l.getD 0 0 ∧ l.getD 0 0 ≤ 223) : stp l = if 2 ≤ l.length ∧ 128 ≤ l.getD 1 0 ∧ l.getD 1 0 ≤ 191 then 2 else 0 := by
  unfold stp
  dsimp only
  rw [if_neg (by omega)]
  by_cases q : 2 ≤ l.length ∧ 128 ≤ l.getD 1 0 ∧ l.getD 1 0 ≤ 191
  · rw [if_pos q, if_pos ⟨h.1, h.2, q⟩]
  · rw [if_neg q, if_neg (by omega), if_neg (by omega), if_neg (by omega)]
theorem s3 (lo hi : Int) (h : 224 ≤ l.getD 0 0 ∧ l.getD 0 0 ≤ 239) (hlo : (if l.getD 0 0 = 224 then 160 else 128) = lo) (hhi : (if l.getD 0 0 = 237 then 159 else 191) = hi) : stp l = if 3 ≤ l.length ∧ lo ≤ l.getD 1 0 ∧ l.getD 1 0 ≤ hi ∧ 128 ≤ l.getD 2 0 ∧ l.getD 2 0 ≤ 191 then 3 else 0 := by
  unfold stp
  dsimp only
  rw [hlo, hhi, if_neg (by omega), if_neg (by omega)]
  by_cases q : 3 ≤ l.length ∧ lo ≤ l.getD 1 0 ∧ l.getD 1 0 ≤ hi ∧ 128 ≤ l.getD 2 0 ∧ l.getD 2 0 ≤ 191
  · rw [if_pos q, if_pos ⟨h.1, h.2, q⟩]
  · rw [if_neg q, if_neg (fun hc => q hc.2.2), if_neg (by omega)]
theorem s4 (lo hi : Int) (h : 240 ≤ l.getD 0 0 ∧ l.getD 0 0 ≤ 244) (hlo : (if l.getD 0 0 = 240 then 144 else 128) = lo) (hhi : (if l.getD 0 0 = 244 then 143 else 191) = hi) : stp l = if 4 ≤ l.length ∧ lo ≤ l.getD 1 0 ∧ l.getD 1 0 ≤ hi ∧ 128 ≤ l.getD 2 0 ∧ l.getD 2 0 ≤ 191 ∧ 128 ≤ l.getD 3 0 ∧ l.getD 3 0 ≤ 191 then 4 else 0 := by
  unfold stp
  dsimp only
  rw [hlo, hhi, if_neg (by omega), if_neg (by omega), if_neg (by omega)]
  by_cases q : 4 ≤ l.length ∧ lo ≤ l.getD 1 0 ∧ l.getD 1 0 ≤ hi ∧ 128 ≤ l.getD 2 0 ∧ l.getD 2 0 ≤ 191 ∧ 128 ≤ l.getD 3 0 ∧ l.getD 3 0 ≤ 191
  · rw [if_pos q, if_pos ⟨h.1, h.2, q⟩]
  · rw [if_neg q, if_neg (fun hc => q hc.2.2)]
end

section
variable {R : Type} (kr : Bool → Option R) (kx : List UInt8 → Int → Int → Int → List UInt8 → Int → Int → Int → Int → Bool → Option R) (a : List UInt8)
theorem in0 (m : Nat) (i n lo hi j g26 : Int) (g27 : List UInt8) (g28 g29 g30 g31 : Int) (g32 : Bool) (h : n < j) :
    loopN (B_utf_Valid_7 kr kx) (m + 1) ⟨a, i, n, lo, hi, j, g26, g27, g28, g29, g30, g31, g32⟩ = kx a i n g26 g27 g28 g29 g30 g31 g32 := by
  rw [loop_succ]
  unfold B_utf_Valid_7
  simp only [cond_dec]
  rw [if_neg (by omega)]
theorem in1 (m : Nat) (i n lo hi j g26 : Int) (g27 : List UInt8) (g28 g29 g30 g31 : Int) (g32 : Bool) (h : j ≤ n) (h1 : 0 ≤ j) (hi0 : 0 ≤ i) (hn : i + n < a.length) (ha : a.length ≤ 4611686018427387904) :
    loopN (B_utf_Valid_7 kr kx) (m + 1) ⟨a, i, n, lo, hi, j, g26, g27, g28, g29, g30, g31, g32⟩ =
      if lo ≤ (nums a).getD (i + j).toNat 0 ∧ (nums a).getD (i + j).toNat 0 ≤ hi then loopN (B_utf_Valid_7 kr kx) m ⟨a, i, n, 128, 191, j + 1, g26, g27, g28, g29, g30, g31, g32⟩ else kr false := by
  rw [loop_succ]
  unfold B_utf_Valid_7
  simp only [cond_dec, cond_inB]
  rw [if_pos h, w_i64 (by omega), if_pos (by omega), bt_nums, w_i64 (by omega)]
  by_cases h3 : (nums a).getD (i + j).toNat 0 < lo
  · rw [if_pos h3, if_neg (by omega)]
  · rw [if_neg h3]
    by_cases h4 : (nums a).getD (i + j).toNat 0 > hi
    · rw [if_pos h4, if_neg (by omega)]
    · rw [if_neg h4, if_pos (by omega)]
end

set_option maxHeartbeats 2000000 in
/-- the program's Valid -/
theorem l11 {R : Type} (kr : Bool → Option R) (ke : Option R) (a : List UInt8) (ha : a.length ≤ 4611686018427387904) : ∀ (n i : Nat), i ≤ a.length → a.length - i < n →
    loopN (B_utf_Valid_2 kr ke) n ⟨a, i⟩ = if valid ((nums a).drop i) = true then ke else kr false := by
  intro n
  induction n with
  | zero => intro i _ h; omega
  | succ n ih =>
    intro i hi hn
    have hl := nums_len a
    rw [loop_succ]
    generalize loopN (B_utf_Valid_2 kr ke) n = rec at ih ⊢
    unfold B_utf_Valid_2
    simp only [cond_dec, cond_inB, cond_not]
    by_cases h : i = a.length
    · rw [if_neg (by omega), List.drop_eq_nil_of_le (by omega), valid_nil]; rfl
    · have hne : (nums a).drop i ≠ [] := fun hc => by have := congrArg List.length hc; rw [List.length_drop] at this; simp at this; omega
      rw [if_pos (by omega), if_pos (by omega), bt_nums]
      obtain ⟨m, hm⟩ := fuel_add 5 (by omega)
      have hb0 := nums_get a i
      have hb1 := nums_get a (i + 1)
      have hb2 := nums_get a (i + 2)
      have hb3 := nums_get a (i + 3)
      have hdl : ((nums a).drop i).length = a.length - i := by rw [List.length_drop, hl]
      have step : ∀ k : Nat, stp ((nums a).drop i) = k → 0 < k → i + k ≤ a.length → (if valid ((nums a).drop i) = true then ke else kr false) = rec ⟨a, (i : Int) + k⟩ := fun k hk h0 hle => by
        rw [valid_yes (by omega) hne, hk, List.drop_drop]
        have := ih (i + k) (by omega) (by omega)
        rw [show ((i : Int) + k) = ((i + k : Nat) : Int) by omega, this]
      have no : stp ((nums a).drop i) = 0 → (if valid ((nums a).drop i) = true then ke else kr false) = kr false := fun h0 => by
        rw [valid_no hne h0]; rfl
      have q1 := s1 ((nums a).drop i)
      have q0 := s0 ((nums a).drop i)
      have q2 := s2 ((nums a).drop i)
      have q3 := s3 ((nums a).drop i)
      have q4 := s4 ((nums a).drop i)
      simp only [drop_getD, hdl, Nat.add_zero] at q0 q1 q2 q3 q4
      generalize stp ((nums a).drop i) = s at step no q0 q1 q2 q3 q4
      have hti : ((i : Int)).toNat = i := Int.toNat_natCast i
      rw [hti]
      have e1 : ((i : Int) + 1).toNat = i + 1 := by omega
      have e2 : ((i : Int) + (1 + 1)).toNat = i + 2 := by omega
      have e3 : ((i : Int) + (1 + 1 + 1)).toNat = i + 3 := by omega
      generalize hc0 : (nums a).getD i 0 = c0 at *
      generalize hc1 : (nums a).getD (i + 1) 0 = c1 at *
      generalize hc2 : (nums a).getD (i + 2) 0 = c2 at *
      generalize hc3 : (nums a).getD (i + 3) 0 = c3 at *
      have w1 : IntKind.i64.wrap ((a.length : Int) - i) = (a.length : Int) - i := w_i64 (by omega)
      have w2 : IntKind.i64.wrap ((a.length : Int) - i - 1) = (a.length : Int) - i - 1 := w_i64 (by omega)
      have w3 : IntKind.i64.wrap ((1 : Int) + 0) = 1 := rfl
      have w4 : IntKind.i64.wrap ((1 : Int) + 1) = 2 := rfl
      have w5 : IntKind.i64.wrap ((1 : Int) + 2) = 3 := rfl
      have w6 : IntKind.i64.wrap ((1 : Int) + 3) = 4 := rfl
      have w7 : IntKind.i64.wrap ((i : Int) + 1) = (i : Int) + 1 := w_i64 (by omega)
      have w8 : IntKind.i64.wrap ((i : Int) + 2) = (i : Int) + 2 := w_i64 (by omega)
      have w9 : IntKind.i64.wrap ((i : Int) + 3) = (i : Int) + 3 := w_i64 (by omega)
      have w10 : i + 4 ≤ a.length → IntKind.i64.wrap ((i : Int) + 4) = (i : Int) + 4 := fun h => w_i64 (by omega)
      simp only [w1, w2]
      unfold fuel_utf_Valid_7
      rw [hm]
      rcases (by omega : c0 < 128 ∨ (128 ≤ c0 ∧ c0 < 194) ∨ (194 ≤ c0 ∧ c0 ≤ 223) ∨ c0 = 224 ∨ c0 = 237 ∨ (224 < c0 ∧ c0 < 237) ∨ (237 < c0 ∧ c0 ≤ 239) ∨ c0 = 240 ∨ c0 = 244 ∨ (240 < c0 ∧ c0 < 244) ∨ 244 < c0) with h | h | h | h | h | h | h | h | h | h | h
      · rw [t27_1 _ _ h]
        simp only [cond_true, if_false]
        rw [if_neg (by omega), in0 (h := by omega), w3, w7]
        exact (step 1 (q1 h) (by omega) (by omega)).symm
      · rw [t27_0 _ _ h]
        exact (no (q0 (.inl h))).symm
      · rw [t27_2 _ _ h]
        have hs := q2 h
        clear q0 q1 q2 q3 q4
        simp only [cond_true]
        by_cases hsh : i + 2 ≤ a.length
        · rw [if_neg (by omega)]
          rw [in1 (h := by omega) (h1 := by omega) (hi0 := by omega) (hn := by omega) (ha := ha), e1, hc1]
          by_cases hb1' : 128 ≤ c1 ∧ c1 ≤ 191
          · rw [if_pos hb1']
            rw [in0 (h := by omega), w4, w8]
            rw [if_pos (by omega)] at hs
            exact (step 2 hs (by omega) (by omega)).symm
          · rw [if_neg hb1']
            rw [if_neg (by omega)] at hs
            exact (no hs).symm
        · rw [if_pos (by omega)]
          rw [if_neg (by omega)] at hs
          exact (no hs).symm
      · rw [t27_3a _ _ h]
        have hs := q3 160 191 (by omega) (by split <;> omega) (by split <;> omega)
        clear q0 q1 q2 q3 q4
        simp only [cond_true]
        by_cases hsh : i + 3 ≤ a.length
        · rw [if_neg (by omega)]
          rw [in1 (h := by omega) (h1 := by omega) (hi0 := by omega) (hn := by omega) (ha := ha), e1, hc1]
          by_cases hb1' : 160 ≤ c1 ∧ c1 ≤ 191
          · rw [if_pos hb1']
            rw [in1 (h := by omega) (h1 := by omega) (hi0 := by omega) (hn := by omega) (ha := ha), e2, hc2]
            by_cases hb2' : 128 ≤ c2 ∧ c2 ≤ 191
            · rw [if_pos hb2']
              rw [in0 (h := by omega), w5, w9]
              rw [if_pos (by omega)] at hs
              exact (step 3 hs (by omega) (by omega)).symm
            · rw [if_neg hb2']
              rw [if_neg (by omega)] at hs
              exact (no hs).symm
          · rw [if_neg hb1']
            rw [if_neg (by omega)] at hs
            exact (no hs).symm
        · rw [if_pos (by omega)]
          rw [if_neg (by omega)] at hs
          exact (no hs).symm
      · rw [t27_3b _ _ h]
        have hs := q3 128 159 (by omega) (by split <;> omega) (by split <;> omega)
        clear q0 q1 q2 q3 q4
        simp only [cond_true]
        by_cases hsh : i + 3 ≤ a.length
        · rw [if_neg (by omega)]
          rw [in1 (h := by omega) (h1 := by omega) (hi0 := by omega) (hn := by omega) (ha := ha), e1, hc1]
          by_cases hb1' : 128 ≤ c1 ∧ c1 ≤ 159
          · rw [if_pos hb1']
            rw [in1 (h := by omega) (h1 := by omega) (hi0 := by omega) (hn := by omega) (ha := ha), e2, hc2]
            by_cases hb2' : 128 ≤ c2 ∧ c2 ≤ 191
            · rw [if_pos hb2']
              rw [in0 (h := by omega), w5, w9]
              rw [if_pos (by omega)] at hs
              exact (step 3 hs (by omega) (by omega)).symm
            · rw [if_neg hb2']
              rw [if_neg (by omega)] at hs
              exact (no hs).symm
          · rw [if_neg hb1']
            rw [if_neg (by omega)] at hs
            exact (no hs).symm
        · rw [if_pos (by omega)]
          rw [if_neg (by omega)] at hs
          exact (no hs).symm
      · rw [t27_3c _ _ h]
        have hs := q3 128 191 (by omega) (by split <;> omega) (by split <;> omega)
        clear q0 q1 q2 q3 q4
        simp only [cond_true]
        by_cases hsh : i + 3 ≤ a.length
        · rw [if_neg (by omega)]
          rw [in1 (h := by omega) (h1 := by omega) (hi0 := by omega) (hn := by omega) (ha := ha), e1, hc1]
          by_cases hb1' : 128 ≤ c1 ∧ c1 ≤ 191
          · rw [if_pos hb1']
            rw [in1 (h := by omega) (h1 := by omega) (hi0 := by omega) (hn := by omega) (ha := ha), e2, hc2]
            by_cases hb2' : 128 ≤ c2 ∧ c2 ≤ 191
            · rw [if_pos hb2']
              rw [in0 (h := by omega), w5, w9]
              rw [if_pos (by omega)] at hs
              exact (step 3 hs (by omega) (by omega)).symm
            · rw [if_neg hb2']
              rw [if_neg (by omega)] at hs
              exact (no hs).symm
          · rw [if_neg hb1']
            rw [if_neg (by omega)] at hs
            exact (no hs).symm
        · rw [if_pos (by omega)]
          rw [if_neg (by omega)] at hs
          exact (no hs).symm
      · rw [t27_3d _ _ h]
        have hs := q3 128 191 (by omega) (by split <;> omega) (by split <;> omega)
        clear q0 q1 q2 q3 q4
        simp only [cond_true]
        by_cases hsh : i + 3 ≤ a.length
        · rw [if_neg (by omega)]
          rw [in1 (h := by omega) (h1 := by omega) (hi0 := by omega) (hn := by omega) (ha := ha), e1, hc1]
          by_cases hb1' : 128 ≤ c1 ∧ c1 ≤ 191
          · rw [if_pos hb1']
            rw [in1 (h := by omega) (h1 := by omega) (hi0 := by omega) (hn := by omega) (ha := ha), e2, hc2]
            by_cases hb2' : 128 ≤ c2 ∧ c2 ≤ 191
            · rw [if_pos hb2']
              rw [in0 (h := by omega), w5, w9]
              rw [if_pos (by omega)] at hs
              exact (step 3 hs (by omega) (by omega)).symm
            · rw [if_neg hb2']
              rw [if_neg (by omega)] at hs
              exact (no hs).symm
          · rw [if_neg hb1']
            rw [if_neg (by omega)] at hs
            exact (no hs).symm
        · rw [if_pos (by omega)]
          rw [if_neg (by omega)] at hs
          exact (no hs).symm
      · rw [t27_4a _ _ h]
        have hs := q4 144 191 (by omega) (by split <;> omega) (by split <;> omega)
        clear q0 q1 q2 q3 q4
        simp only [cond_true]
        by_cases hsh : i + 4 ≤ a.length
        · rw [if_neg (by omega)]
          rw [in1 (h := by omega) (h1 := by omega) (hi0 := by omega) (hn := by omega) (ha := ha), e1, hc1]
          by_cases hb1' : 144 ≤ c1 ∧ c1 ≤ 191
          · rw [if_pos hb1']
            rw [in1 (h := by omega) (h1 := by omega) (hi0 := by omega) (hn := by omega) (ha := ha), e2, hc2]
            by_cases hb2' : 128 ≤ c2 ∧ c2 ≤ 191
            · rw [if_pos hb2']
              rw [in1 (h := by omega) (h1 := by omega) (hi0 := by omega) (hn := by omega) (ha := ha), e3, hc3]
              by_cases hb3' : 128 ≤ c3 ∧ c3 ≤ 191
              · rw [if_pos hb3']
                rw [in0 (h := by omega), w6, w10 hsh]
                rw [if_pos (by omega)] at hs
                exact (step 4 hs (by omega) (by omega)).symm
              · rw [if_neg hb3']
                rw [if_neg (by omega)] at hs
                exact (no hs).symm
            · rw [if_neg hb2']
              rw [if_neg (by omega)] at hs
              exact (no hs).symm
          · rw [if_neg hb1']
            rw [if_neg (by omega)] at hs
            exact (no hs).symm
        · rw [if_pos (by omega)]
          rw [if_neg (by omega)] at hs
          exact (no hs).symm
      · rw [t27_4b _ _ h]
        have hs := q4 128 143 (by omega) (by split <;> omega) (by split <;> omega)
        clear q0 q1 q2 q3 q4
        simp only [cond_true]
        by_cases hsh : i + 4 ≤ a.length
        · rw [if_neg (by omega)]
          rw [in1 (h := by omega) (h1 := by omega) (hi0 := by omega) (hn := by omega) (ha := ha), e1, hc1]
          by_cases hb1' : 128 ≤ c1 ∧ c1 ≤ 143
          · rw [if_pos hb1']
            rw [in1 (h := by omega) (h1 := by omega) (hi0 := by omega) (hn := by omega) (ha := ha), e2, hc2]
            by_cases hb2' : 128 ≤ c2 ∧ c2 ≤ 191
            · rw [if_pos hb2']
              rw [in1 (h := by omega) (h1 := by omega) (hi0 := by omega) (hn := by omega) (ha := ha), e3, hc3]
              by_cases hb3' : 128 ≤ c3 ∧ c3 ≤ 191
              · rw [if_pos hb3']
                rw [in0 (h := by omega), w6, w10 hsh]
                rw [if_pos (by omega)] at hs
                exact (step 4 hs (by omega) (by omega)).symm
              · rw [if_neg hb3']
                rw [if_neg (by omega)] at hs
                exact (no hs).symm
            · rw [if_neg hb2']
              rw [if_neg (by omega)] at hs
              exact (no hs).symm
          · rw [if_neg hb1']
            rw [if_neg (by omega)] at hs
            exact (no hs).symm
        · rw [if_pos (by omega)]
          rw [if_neg (by omega)] at hs
          exact (no hs).symm
      · rw [t27_4c _ _ h]
        have hs := q4 128 191 (by omega) (by split <;> omega) (by split <;> omega)
        clear q0 q1 q2 q3 q4
        simp only [cond_true]
        by_cases hsh : i + 4 ≤ a.length
        · rw [if_neg (by omega)]
          rw [in1 (h := by omega) (h1 := by omega) (hi0 := by omega) (hn := by omega) (ha := ha), e1, hc1]
          by_cases hb1' : 128 ≤ c1 ∧ c1 ≤ 191
          · rw [if_pos hb1']
            rw [in1 (h := by omega) (h1 := by omega) (hi0 := by omega) (hn := by omega) (ha := ha), e2, hc2]
            by_cases hb2' : 128 ≤ c2 ∧ c2 ≤ 191
            · rw [if_pos hb2']
              rw [in1 (h := by omega) (h1 := by omega) (hi0 := by omega) (hn := by omega) (ha := ha), e3, hc3]
              by_cases hb3' : 128 ≤ c3 ∧ c3 ≤ 191
              · rw [if_pos hb3']
                rw [in0 (h := by omega), w6, w10 hsh]
                rw [if_pos (by omega)] at hs
                exact (step 4 hs (by omega) (by omega)).symm
              · rw [if_neg hb3']
                rw [if_neg (by omega)] at hs
                exact (no hs).symm
            · rw [if_neg hb2']
              rw [if_neg (by omega)] at hs
              exact (no hs).symm
          · rw [if_neg hb1']
            rw [if_neg (by omega)] at hs
            exact (no hs).symm
        · rw [if_pos (by omega)]
          rw [if_neg (by omega)] at hs
          exact (no hs).symm
      · rw [t27_5 _ _ h]
        exact (no (q0 (.inr h))).symm

theorem p11_eq {R : Type} (s : List UInt8) (K : Bool → Option R) (h : s.length ≤ 4611686018427387904) : p_utf_Valid s K = if valid (nums s) = true then K true else K false := by
  unfold p_utf_Valid
  have := l11 K (K true) s h fuel64 0 (by omega) (lt_fuel (by omega))
  rw [List.drop_zero] at this
  exact this

theorem ite_le {A B C D : Prop} [Decidable A] [Decidable B] [Decidable C] [Decidable D] {n : Nat} (ha : A → 1 ≤ n) (hb : B → 2 ≤ n) (hc : C → 3 ≤ n) (hd : D → 4 ≤ n) : (if A then 1 else if B then 2 else if C then 3 else if D then 4 else 0) ≤ n := by
  by_cases a : A
  · rw [if_pos a]; exact ha a
  · rw [if_neg a]
    by_cases b : B
    · rw [if_pos b]; exact hb b
    · rw [if_neg b]
      by_cases c : C
      · rw [if_pos c]; exact hc c
      · rw [if_neg c]
        by_cases d : D
        · rw [if_pos d]; exact hd d
        · rw [if_neg d]; exact Nat.zero_le _
theorem stp_le (l : List Int) (h : l ≠ []) : stp l ≤ l.length := by
  have h1 : 1 ≤ l.length := by cases l with | nil => exact absurd rfl h | cons a l => simp
  exact ite_le (fun _ => h1) (fun h => h.2.2.1) (fun h => h.2.2.1) (fun h => h.2.2.1)

theorem app_getD {l m : List Int} {i : Nat} (h : i < l.length) : (l ++ m).getD i 0 = l.getD i 0 := by
  simp [List.getD_eq_getElem?_getD, List.getElem?_append_left h]

/-- what stands behind a character plays no part -/
theorem stp_app (l m : List Int) (h : l ≠ []) (h0 : stp l ≠ 0) : stp (l ++ m) = stp l := by
  have h1 : 0 < l.length := by cases l with | nil => exact absurd rfl h | cons a l => simp
  have e0 : (l ++ m).getD 0 0 = l.getD 0 0 := app_getD h1
  have hl : l.length ≤ (l ++ m).length := by simp
  unfold stp at h0 ⊢
  dsimp only at h0 ⊢
  rw [e0]
  by_cases c : l.getD 0 0 < 128
  · rw [if_pos c, if_pos c]
  · rw [if_neg c] at h0 ⊢
    rw [if_neg c]
    by_cases c1 : 194 ≤ l.getD 0 0 ∧ l.getD 0 0 ≤ 223 ∧ 2 ≤ l.length ∧ 128 ≤ l.getD 1 0 ∧ l.getD 1 0 ≤ 191
    · rw [if_pos c1, if_pos (by rw [app_getD (by omega)]; omega)]
    · rw [if_neg c1] at h0 ⊢
      by_cases c2 : 224 ≤ l.getD 0 0 ∧ l.getD 0 0 ≤ 239 ∧ 3 ≤ l.length ∧ (if l.getD 0 0 = 224 then 160 else 128) ≤ l.getD 1 0 ∧ l.getD 1 0 ≤ (if l.getD 0 0 = 237 then 159 else 191) ∧ 128 ≤ l.getD 2 0 ∧ l.getD 2 0 ≤ 191
      · rw [if_pos c2]
        rw [if_neg (by omega), if_pos (by rw [app_getD (by omega), app_getD (by omega)]; exact ⟨c2.1, c2.2.1, by omega, c2.2.2.2⟩)]
      · rw [if_neg c2] at h0 ⊢
        by_cases c3 : 240 ≤ l.getD 0 0 ∧ l.getD 0 0 ≤ 244 ∧ 4 ≤ l.length ∧ (if l.getD 0 0 = 240 then 144 else 128) ≤ l.getD 1 0 ∧ l.getD 1 0 ≤ (if l.getD 0 0 = 244 then 143 else 191) ∧ 128 ≤ l.getD 2 0 ∧ l.getD 2 0 ≤ 191 ∧ 128 ≤ l.getD 3 0 ∧ l.getD 3 0 ≤ 191
        · rw [if_pos c3]
          rw [if_neg (by omega), if_neg (by omega), if_pos (by rw [app_getD (by omega), app_getD (by omega), app_getD (by omega)]; exact ⟨c3.1, c3.2.1, by omega, c3.2.2.2⟩)]
        · rw [if_neg c3] at h0
          exact absurd rfl h0

theorem valid_app (m : List Int) : ∀ (n : Nat) (l : List Int), l.length ≤ n → valid l = true → valid (l ++ m) = valid m := by
  intro n
  induction n with
  | zero =>
    intro l hl _
    have : l = [] := List.eq_nil_of_length_eq_zero (by omega)
    subst this; rfl
  | succ n ih =>
    intro l hl h
    by_cases h0 : l = []
    · subst h0; rfl
    · by_cases h1 : stp l = 0
      · rw [valid_no h0 h1] at h; cases h
      · have hle := stp_le l h0
        have hpos : 0 < l.length := by omega
        rw [valid_yes h1 h0] at h
        have hs := stp_app l m h0 h1
        rw [valid_yes (by rw [hs]; exact h1) (by simp [h0]), hs, List.drop_append_of_le_length hle]
        exact ih _ (by rw [List.length_drop]; omega) h

theorem nums_app (a b : List UInt8) : nums (a ++ b) = nums a ++ nums b := by simp [nums]

theorem minI_nat (n m : Nat) : minI (n : Int) (m : Int) = ((min n m : Nat) : Int) := by
  unfold minI
  split <;> omega
theorem rng_to {α : Type} (l : List α) (n : Nat) : rng l 0 (n : Int) = l.take n := by simp [rng]

theorem take_getD {l : List Int} {n i : Nat} (h : i < n) : (l.take n).getD i 0 = l.getD i 0 := by
  simp [List.getD_eq_getElem?_getD, h]

/-- a character that is cut -/
theorem stp_take (l : List Int) (n : Nat) (h0 : stp l ≠ 0) (hn : 0 < n) (hl : n ≤ l.length) : stp (l.take n) = if stp l ≤ n then stp l else 0 := by
  have e0 : (l.take n).getD 0 0 = l.getD 0 0 := take_getD hn
  have el : (l.take n).length = n := by rw [List.length_take]; omega
  unfold stp at h0 ⊢
  dsimp only at h0 ⊢
  rw [e0, el]
  by_cases c : l.getD 0 0 < 128
  · simp only [if_pos c]
    rw [if_pos (by omega)]
  · simp only [if_neg c] at h0 ⊢
    by_cases c1 : 194 ≤ l.getD 0 0 ∧ l.getD 0 0 ≤ 223 ∧ 2 ≤ l.length ∧ 128 ≤ l.getD 1 0 ∧ l.getD 1 0 ≤ 191
    · simp only [if_pos c1]
      by_cases h : 2 ≤ n
      · rw [if_pos h, if_pos (by rw [take_getD (by omega)]; exact ⟨c1.1, c1.2.1, h, c1.2.2.2⟩)]
      · rw [if_neg h, if_neg (by omega), if_neg (by omega), if_neg (by omega)]
    · simp only [if_neg c1] at h0 ⊢
      by_cases c2 : 224 ≤ l.getD 0 0 ∧ l.getD 0 0 ≤ 239 ∧ 3 ≤ l.length ∧ (if l.getD 0 0 = 224 then 160 else 128) ≤ l.getD 1 0 ∧ l.getD 1 0 ≤ (if l.getD 0 0 = 237 then 159 else 191) ∧ 128 ≤ l.getD 2 0 ∧ l.getD 2 0 ≤ 191
      · simp only [if_pos c2]
        by_cases h : 3 ≤ n
        · rw [if_pos h, if_neg (by omega), if_pos (by rw [take_getD (by omega), take_getD (by omega)]; exact ⟨c2.1, c2.2.1, h, c2.2.2.2⟩)]
        · rw [if_neg h, if_neg (by omega), if_neg (by omega), if_neg (by omega)]
      · simp only [if_neg c2] at h0 ⊢
        by_cases c3 : 240 ≤ l.getD 0 0 ∧ l.getD 0 0 ≤ 244 ∧ 4 ≤ l.length ∧ (if l.getD 0 0 = 240 then 144 else 128) ≤ l.getD 1 0 ∧ l.getD 1 0 ≤ (if l.getD 0 0 = 244 then 143 else 191) ∧ 128 ≤ l.getD 2 0 ∧ l.getD 2 0 ≤ 191 ∧ 128 ≤ l.getD 3 0 ∧ l.getD 3 0 ≤ 191
        · simp only [if_pos c3]
          by_cases h : 4 ≤ n
          · rw [if_pos h, if_neg (by omega), if_neg (by omega), if_pos (by rw [take_getD (by omega), take_getD (by omega), take_getD (by omega)]; exact ⟨c3.1, c3.2.1, h, c3.2.2.2⟩)]
          · rw [if_neg h, if_neg (by omega), if_neg (by omega), if_neg (by omega)]
        · simp only [if_neg c3] at h0
          exact absurd rfl h0

theorem stp_head (l : List Int) (h0 : stp l ≠ 0) : l.getD 0 0 < 128 ∨ 191 < l.getD 0 0 := by
  unfold stp at h0
  dsimp only at h0
  by_cases c : l.getD 0 0 < 128
  · exact .inl c
  · right
    simp only [if_neg c] at h0
    by_cases c1 : 194 ≤ l.getD 0 0 ∧ l.getD 0 0 ≤ 223 ∧ 2 ≤ l.length ∧ 128 ≤ l.getD 1 0 ∧ l.getD 1 0 ≤ 191
    · omega
    · simp only [if_neg c1] at h0
      by_cases c2 : 224 ≤ l.getD 0 0 ∧ l.getD 0 0 ≤ 239 ∧ 3 ≤ l.length ∧ (if l.getD 0 0 = 224 then 160 else 128) ≤ l.getD 1 0 ∧ l.getD 1 0 ≤ (if l.getD 0 0 = 237 then 159 else 191) ∧ 128 ≤ l.getD 2 0 ∧ l.getD 2 0 ≤ 191
      · omega
      · simp only [if_neg c2] at h0
        by_cases c3 : 240 ≤ l.getD 0 0 ∧ l.getD 0 0 ≤ 244 ∧ 4 ≤ l.length ∧ (if l.getD 0 0 = 240 then 144 else 128) ≤ l.getD 1 0 ∧ l.getD 1 0 ≤ (if l.getD 0 0 = 244 then 143 else 191) ∧ 128 ≤ l.getD 2 0 ∧ l.getD 2 0 ≤ 191 ∧ 128 ≤ l.getD 3 0 ∧ l.getD 3 0 ≤ 191
        · omega
        · simp only [if_neg c3] at h0
          exact absurd rfl h0

/-- within a character bytes go on -/
theorem stp_mid (l : List Int) (i : Nat) (h : 0 < i) (hi : i < stp l) : 128 ≤ l.getD i 0 ∧ l.getD i 0 ≤ 191 := by
  unfold stp at hi
  dsimp only at hi
  by_cases c : l.getD 0 0 < 128
  · simp only [if_pos c] at hi
    omega
  · simp only [if_neg c] at hi
    by_cases c1 : 194 ≤ l.getD 0 0 ∧ l.getD 0 0 ≤ 223 ∧ 2 ≤ l.length ∧ 128 ≤ l.getD 1 0 ∧ l.getD 1 0 ≤ 191
    · simp only [if_pos c1] at hi
      obtain rfl : i = 1 := by omega
      exact c1.2.2.2
    · simp only [if_neg c1] at hi
      by_cases c2 : 224 ≤ l.getD 0 0 ∧ l.getD 0 0 ≤ 239 ∧ 3 ≤ l.length ∧ (if l.getD 0 0 = 224 then 160 else 128) ≤ l.getD 1 0 ∧ l.getD 1 0 ≤ (if l.getD 0 0 = 237 then 159 else 191) ∧ 128 ≤ l.getD 2 0 ∧ l.getD 2 0 ≤ 191
      · simp only [if_pos c2] at hi
        obtain ⟨_, _, _, q1, q2, q3⟩ := c2
        rcases (by omega : i = 1 ∨ i = 2) with rfl | rfl
        · split at q1 <;> split at q2 <;> omega
        · exact q3
      · simp only [if_neg c2] at hi
        by_cases c3 : 240 ≤ l.getD 0 0 ∧ l.getD 0 0 ≤ 244 ∧ 4 ≤ l.length ∧ (if l.getD 0 0 = 240 then 144 else 128) ≤ l.getD 1 0 ∧ l.getD 1 0 ≤ (if l.getD 0 0 = 244 then 143 else 191) ∧ 128 ≤ l.getD 2 0 ∧ l.getD 2 0 ≤ 191 ∧ 128 ≤ l.getD 3 0 ∧ l.getD 3 0 ≤ 191
        · simp only [if_pos c3] at hi
          obtain ⟨_, _, _, q1, q2, q3, q4, q5, q6⟩ := c3
          rcases (by omega : i = 1 ∨ i = 2 ∨ i = 3) with rfl | rfl | rfl
          · split at q1 <;> split at q2 <;> omega
          · exact ⟨q3, q4⟩
          · exact ⟨q5, q6⟩
        · simp only [if_neg c3] at hi
          omega

theorem valid_cut : ∀ (n : Nat) (l : List Int) (i : Nat), l.length ≤ n → valid l = true → i < l.length → valid (l.take i) = decide (l.getD i 0 < 128 ∨ 191 < l.getD i 0) := by
  intro n
  induction n with
  | zero => intro l i h _ hi; omega
  | succ n ih =>
    intro l i hl hv hi
    have hne : l ≠ [] := by rintro rfl; simp at hi
    have h0 : stp l ≠ 0 := fun h => by rw [valid_no hne h] at hv; cases hv
    by_cases hi0 : i = 0
    · subst hi0
      rw [List.take_zero, valid_nil, decide_eq_true (stp_head l h0)]
    · have hne2 : l.take i ≠ [] := fun hc => by
        have := congrArg List.length hc
        rw [List.length_take, List.length_nil] at this
        omega
      have ht := stp_take l i h0 (by omega) (by omega)
      by_cases hk : stp l ≤ i
      · rw [if_pos hk] at ht
        rw [valid_yes h0 hne] at hv
        rw [valid_yes (by rw [ht]; exact h0) hne2, ht, List.drop_take, ih _ (i - stp l) (by rw [List.length_drop]; omega) hv (by rw [List.length_drop]; omega), drop_getD, show stp l + (i - stp l) = i by omega]
      · rw [if_neg hk] at ht
        have := stp_mid l i (by omega) (by omega)
        rw [valid_no hne2 ht, decide_eq_false (by omega)]

theorem nums_take (s : List UInt8) (n : Nat) : nums (s.take n) = (nums s).take n := by simp [nums, List.map_take]

end Go.Trm.G1
