import Derived.Test.YthidebepdpkgkaaTrmPlain
import Derived.Test.YthidebepdpkgkaaTrmG1
set_option linter.unusedVariables false
set_option linter.unusedSimpArgs false
namespace Go.Trm.G1

/-- how long the character at the head is; 0: there is none -/
def stp (l : List Int) : Nat :=
  let c0 := l.getD 0 0
  let c1 := l.getD 1 0
  let c2 := l.getD 2 0
  let c3 := l.getD 3 0
  if c0 < 128 then 1
  else if 194 ≤ c0 ∧ c0 ≤ 223 ∧ 2 ≤ l.length ∧ 128 ≤ c1 ∧ c1 ≤ 191 then 2
  else if 224 ≤ c0 ∧ c0 ≤ 239 ∧ 3 ≤ l.length ∧ (if c0 = 224 then 160 else 128) ≤ c1 ∧ c1 ≤ (if c0 = 237 then 159 else 191) ∧ 128 ≤ c2 ∧ c2 ≤ 191 then 3
  else if 240 ≤ c0 ∧ c0 ≤ 244 ∧ 4 ≤ l.length ∧ (if c0 = 240 then 144 else 128) ≤ c1 ∧ c1 ≤ (if c0 = 244 then 143 else 191) ∧ 128 ≤ c2 ∧ c2 ≤ 191 ∧ 128 ≤ c3 ∧ c3 ≤ 191 then 4
  else 0

/-- characters -/
def valid (l : List Int) : Bool := if h : l = [] then true else if h2 : stp l = 0 then false else valid (l.drop (stp l))
termination_by l.length
decreasing_by
  have : l.length ≠ 0 := fun hc => h (List.eq_nil_of_length_eq_zero hc)
  rw [List.length_drop]; omega

theorem valid_nil : valid [] = true := by rw [valid]; simp
theorem valid_no {l : List Int} (h : l ≠ []) (h2 : stp l = 0) : valid l = false := by rw [valid]; simp [h, h2]
theorem valid_yes {l : List Int} (h2 : stp l ≠ 0) (h : l ≠ []) : valid l = valid (l.drop (stp l)) := by rw [valid]; simp [h, h2]

theorem p27_eq {R : Type} (c : Int) (K : Int → Int → Int → Bool → Option R) : p27 c K =
    if c < 128 then K 0 0 0 true else if c < 194 then K 0 0 0 false else if c ≤ 223 then K 1 128 191 true else if c = 224 then K 2 160 191 true else if c = 237 then K 2 128 159 true
    else if c ≤ 239 then K 2 128 191 true else if c = 240 then K 3 144 191 true else if c = 244 then K 3 128 143 true else if c ≤ 243 then K 3 128 191 true else K 0 0 0 false := by
  unfold p27
  simp only [cond_dec, cond_eq]
  rcases (by omega : c < 128 ∨ (128 ≤ c ∧ c < 194) ∨ (194 ≤ c ∧ c ≤ 223) ∨ c = 224 ∨ c = 237 ∨ (224 < c ∧ c < 237) ∨ (237 < c ∧ c ≤ 239) ∨ c = 240 ∨ c = 244 ∨ (240 < c ∧ c < 244) ∨ 244 < c) with h | h | h | h | h | h | h | h | h | h | h
  all_goals simp (disch := omega) only [↓if_pos, ↓if_neg]

theorem p28_eq {R : Type} (c : Int) (K : Int → Option R) : p28 c K =
    if c < 128 then K 1 else if c < 192 then K 0 else if c < 224 then K 2 else if c < 240 then K 3 else if c < 248 then K 4 else K 0 := by
  unfold p28
  simp only [cond_dec]
  rcases (by omega : c < 128 ∨ (128 ≤ c ∧ c < 192) ∨ (192 ≤ c ∧ c < 224) ∨ (224 ≤ c ∧ c < 240) ∨ (240 ≤ c ∧ c < 248) ∨ 248 ≤ c) with h | h | h | h | h | h
  all_goals simp (disch := omega) only [↓if_pos, ↓if_neg]

section
variable {R : Type} (kr : Bool → Option R) (kx : List UInt8 → Int → Int → Int → List UInt8 → Int → Int → Int → Int → Bool → Option R) (a : List UInt8)
theorem in0 (m : Nat) (i n lo hi j g26 : Int) (g27 : List UInt8) (g28 g29 g30 g31 : Int) (g32 : Bool) (h : n < j) :
    loopN (B11_7 kr kx) (m + 1) ⟨a, i, n, lo, hi, j, g26, g27, g28, g29, g30, g31, g32⟩ = kx a i n g26 g27 g28 g29 g30 g31 g32 := by
  rw [loop_succ]
  unfold B11_7
  simp only [cond_dec]
  rw [if_neg (by omega)]
theorem in1 (m : Nat) (i n lo hi j g26 : Int) (g27 : List UInt8) (g28 g29 g30 g31 : Int) (g32 : Bool) (h : j ≤ n) (h1 : 0 ≤ j) (hi0 : 0 ≤ i) (hn : i + n < a.length) (ha : a.length ≤ 4611686018427387904) :
    loopN (B11_7 kr kx) (m + 1) ⟨a, i, n, lo, hi, j, g26, g27, g28, g29, g30, g31, g32⟩ =
      if lo ≤ (nums a).getD (i + j).toNat 0 ∧ (nums a).getD (i + j).toNat 0 ≤ hi then loopN (B11_7 kr kx) m ⟨a, i, n, 128, 191, j + 1, g26, g27, g28, g29, g30, g31, g32⟩ else kr false := by
  rw [loop_succ]
  unfold B11_7
  simp only [cond_dec, cond_inB]
  rw [if_pos h, w_i64 (by omega), if_pos (by omega), bt_nums, w_i64 (by omega)]
  by_cases h3 : (nums a).getD (i + j).toNat 0 < lo
  · rw [if_pos h3, if_neg (by omega)]
  · rw [if_neg h3]
    by_cases h4 : (nums a).getD (i + j).toNat 0 > hi
    · rw [if_pos h4, if_neg (by omega)]
    · rw [if_neg h4, if_pos (by omega)]
end

set_option maxHeartbeats 8000000 in
/-- the program's Valid -/
theorem l11 {R : Type} (kr : Bool → Option R) (ke : Option R) (a : List UInt8) (ha : a.length ≤ 4611686018427387904) : ∀ (n i : Nat), i ≤ a.length → a.length - i < n →
    loopN (B11_2 kr ke) n ⟨a, i⟩ = if valid ((nums a).drop i) = true then ke else kr false := by
  intro n
  induction n with
  | zero => intro i _ h; omega
  | succ n ih =>
    intro i hi hn
    have hl := nums_len a
    rw [loop_succ]
    generalize loopN (B11_2 kr ke) n = rec at ih ⊢
    unfold B11_2
    simp only [cond_dec, cond_inB, cond_not]
    by_cases h : i = a.length
    · rw [if_neg (by omega), List.drop_eq_nil_of_le (by omega), valid_nil]; rfl
    · have hne : (nums a).drop i ≠ [] := fun hc => by have := congrArg List.length hc; rw [List.length_drop] at this; simp at this; omega
      rw [if_pos (by omega), if_pos (by omega), p27_eq, bt_nums]
      obtain ⟨m, hm⟩ := fuel_add 5 (by omega)
      have hb0 := nums_get a i
      have hb1 := nums_get a (i + 1)
      have hb2 := nums_get a (i + 2)
      have hb3 := nums_get a (i + 3)
      have hdl : ((nums a).drop i).length = a.length - i := by rw [List.length_drop, hl]
      have step : ∀ k : Nat, stp ((nums a).drop i) = k → 0 < k → i + k ≤ a.length → (if valid ((nums a).drop i) = true then ke else kr false) = rec ⟨a, (i : Int) + k⟩ := fun k hk h0 hle => by
        rw [valid_yes (by omega) hne, hk, List.drop_drop]
        have := ih (i + k) (by omega) (by omega)
        rw [show ((i : Int) + k) = ((i + k : Nat) : Int) by omega, this]
      have no : stp ((nums a).drop i) = 0 → (if valid ((nums a).drop i) = true then ke else kr false) = kr false := fun h0 => by
        rw [valid_no hne h0]; rfl
      generalize hs : stp ((nums a).drop i) = s at step no
      unfold stp at hs
      simp only [drop_getD, hdl, Nat.add_zero] at hs
      have hti : ((i : Int)).toNat = i := Int.toNat_natCast i
      rw [hti]
      have e1 : ((i : Int) + 1).toNat = i + 1 := by omega
      have e2 : ((i : Int) + (1 + 1)).toNat = i + 2 := by omega
      have e3 : ((i : Int) + (1 + 1 + 1)).toNat = i + 3 := by omega
      generalize hc0 : (nums a).getD i 0 = c0 at *
      generalize hc1 : (nums a).getD (i + 1) 0 = c1 at *
      generalize hc2 : (nums a).getD (i + 2) 0 = c2 at *
      generalize hc3 : (nums a).getD (i + 3) 0 = c3 at *
      have w1 : IntKind.i64.wrap ((a.length : Int) - i) = (a.length : Int) - i := w_i64 (by omega)
      have w2 : IntKind.i64.wrap ((a.length : Int) - i - 1) = (a.length : Int) - i - 1 := w_i64 (by omega)
      have w3 : IntKind.i64.wrap ((1 : Int) + 0) = 1 := rfl
      have w4 : IntKind.i64.wrap ((1 : Int) + 1) = 2 := rfl
      have w5 : IntKind.i64.wrap ((1 : Int) + 2) = 3 := rfl
      have w6 : IntKind.i64.wrap ((1 : Int) + 3) = 4 := rfl
      have w7 : IntKind.i64.wrap ((i : Int) + 1) = (i : Int) + 1 := w_i64 (by omega)
      have w8 : IntKind.i64.wrap ((i : Int) + 2) = (i : Int) + 2 := w_i64 (by omega)
      have w9 : IntKind.i64.wrap ((i : Int) + 3) = (i : Int) + 3 := w_i64 (by omega)
      have w10 : i + 4 ≤ a.length → IntKind.i64.wrap ((i : Int) + 4) = (i : Int) + 4 := fun h => w_i64 (by omega)
      simp only [w1, w2]
      unfold fuel11_7
      rw [hm]
      -- one character, of so many more bytes
      rcases (by omega : c0 < 128 ∨ (128 ≤ c0 ∧ c0 < 194) ∨ (194 ≤ c0 ∧ c0 ≤ 223) ∨ c0 = 224 ∨ c0 = 237 ∨ (224 < c0 ∧ c0 < 237) ∨ (237 < c0 ∧ c0 ≤ 239) ∨ c0 = 240 ∨ c0 = 244 ∨ (240 < c0 ∧ c0 < 244) ∨ 244 < c0) with h | h | h | h | h | h | h | h | h | h | h
      · simp (disch := omega) only [↓if_pos, ↓if_neg] at hs ⊢
        rw [in0 (h := by omega), w3, w7]
        exact (step 1 hs.symm (by omega) (by omega)).symm
      · simp (disch := omega) only [↓if_pos, ↓if_neg] at hs ⊢
        exact (no hs.symm).symm
      · simp (disch := omega) only [↓if_pos, ↓if_neg] at hs ⊢
        by_cases hsh : i + 2 ≤ a.length
        · rw [if_neg (by omega), in1 (h := by omega) (h1 := by omega) (hi0 := by omega) (hn := by omega) (ha := ha), e1, hc1]
          by_cases hb : 128 ≤ c1 ∧ c1 ≤ 191
          · rw [if_pos hb, in0 (h := by omega), w4, w8]
            rw [if_pos (by omega)] at hs
            exact (step 2 hs.symm (by omega) (by omega)).symm
          · rw [if_neg hb]
            rw [if_neg (by omega)] at hs
            exact (no hs.symm).symm
        · rw [if_pos (by omega)]
          rw [if_neg (by omega)] at hs
          exact (no hs.symm).symm
      · simp (disch := omega) only [↓if_pos, ↓if_neg] at hs ⊢
        by_cases hsh : i + 3 ≤ a.length
        · rw [if_neg (by omega), in1 (h := by omega) (h1 := by omega) (hi0 := by omega) (hn := by omega) (ha := ha), e1, hc1]
          by_cases hb : 160 ≤ c1 ∧ c1 ≤ 191
          · rw [if_pos hb, in1 (h := by omega) (h1 := by omega) (hi0 := by omega) (hn := by omega) (ha := ha), e2, hc2]
            by_cases hb2 : 128 ≤ c2 ∧ c2 ≤ 191
            · rw [if_pos hb2, in0 (h := by omega), w5, w9]
              rw [if_pos (by omega)] at hs
              exact (step 3 hs.symm (by omega) (by omega)).symm
            · rw [if_neg hb2]
              rw [if_neg (by omega)] at hs
              exact (no hs.symm).symm
          · rw [if_neg hb]
            rw [if_neg (by omega)] at hs
            exact (no hs.symm).symm
        · rw [if_pos (by omega)]
          rw [if_neg (by omega)] at hs
          exact (no hs.symm).symm
      · simp (disch := omega) only [↓if_pos, ↓if_neg] at hs ⊢
        by_cases hsh : i + 3 ≤ a.length
        · rw [if_neg (by omega), in1 (h := by omega) (h1 := by omega) (hi0 := by omega) (hn := by omega) (ha := ha), e1, hc1]
          by_cases hb : 128 ≤ c1 ∧ c1 ≤ 159
          · rw [if_pos hb, in1 (h := by omega) (h1 := by omega) (hi0 := by omega) (hn := by omega) (ha := ha), e2, hc2]
            by_cases hb2 : 128 ≤ c2 ∧ c2 ≤ 191
            · rw [if_pos hb2, in0 (h := by omega), w5, w9]
              rw [if_pos (by omega)] at hs
              exact (step 3 hs.symm (by omega) (by omega)).symm
            · rw [if_neg hb2]
              rw [if_neg (by omega)] at hs
              exact (no hs.symm).symm
          · rw [if_neg hb]
            rw [if_neg (by omega)] at hs
            exact (no hs.symm).symm
        · rw [if_pos (by omega)]
          rw [if_neg (by omega)] at hs
          exact (no hs.symm).symm
      · simp (disch := omega) only [↓if_pos, ↓if_neg] at hs ⊢
        by_cases hsh : i + 3 ≤ a.length
        · rw [if_neg (by omega), in1 (h := by omega) (h1 := by omega) (hi0 := by omega) (hn := by omega) (ha := ha), e1, hc1]
          by_cases hb : 128 ≤ c1 ∧ c1 ≤ 191
          · rw [if_pos hb, in1 (h := by omega) (h1 := by omega) (hi0 := by omega) (hn := by omega) (ha := ha), e2, hc2]
            by_cases hb2 : 128 ≤ c2 ∧ c2 ≤ 191
            · rw [if_pos hb2, in0 (h := by omega), w5, w9]
              rw [if_pos (by omega)] at hs
              exact (step 3 hs.symm (by omega) (by omega)).symm
            · rw [if_neg hb2]
              rw [if_neg (by omega)] at hs
              exact (no hs.symm).symm
          · rw [if_neg hb]
            rw [if_neg (by omega)] at hs
            exact (no hs.symm).symm
        · rw [if_pos (by omega)]
          rw [if_neg (by omega)] at hs
          exact (no hs.symm).symm
      · simp (disch := omega) only [↓if_pos, ↓if_neg] at hs ⊢
        by_cases hsh : i + 3 ≤ a.length
        · rw [if_neg (by omega), in1 (h := by omega) (h1 := by omega) (hi0 := by omega) (hn := by omega) (ha := ha), e1, hc1]
          by_cases hb : 128 ≤ c1 ∧ c1 ≤ 191
          · rw [if_pos hb, in1 (h := by omega) (h1 := by omega) (hi0 := by omega) (hn := by omega) (ha := ha), e2, hc2]
            by_cases hb2 : 128 ≤ c2 ∧ c2 ≤ 191
            · rw [if_pos hb2, in0 (h := by omega), w5, w9]
              rw [if_pos (by omega)] at hs
              exact (step 3 hs.symm (by omega) (by omega)).symm
            · rw [if_neg hb2]
              rw [if_neg (by omega)] at hs
              exact (no hs.symm).symm
          · rw [if_neg hb]
            rw [if_neg (by omega)] at hs
            exact (no hs.symm).symm
        · rw [if_pos (by omega)]
          rw [if_neg (by omega)] at hs
          exact (no hs.symm).symm
      · simp (disch := omega) only [↓if_pos, ↓if_neg] at hs ⊢
        by_cases hsh : i + 4 ≤ a.length
        · rw [if_neg (by omega), in1 (h := by omega) (h1 := by omega) (hi0 := by omega) (hn := by omega) (ha := ha), e1, hc1]
          by_cases hb : 144 ≤ c1 ∧ c1 ≤ 191
          · rw [if_pos hb, in1 (h := by omega) (h1 := by omega) (hi0 := by omega) (hn := by omega) (ha := ha), e2, hc2]
            by_cases hb2 : 128 ≤ c2 ∧ c2 ≤ 191
            · rw [if_pos hb2, in1 (h := by omega) (h1 := by omega) (hi0 := by omega) (hn := by omega) (ha := ha), e3, hc3]
              by_cases hb3 : 128 ≤ c3 ∧ c3 ≤ 191
              · rw [if_pos hb3, in0 (h := by omega), w6, w10 hsh]
                rw [if_pos (by omega)] at hs
                exact (step 4 hs.symm (by omega) (by omega)).symm
              · rw [if_neg hb3]
                rw [if_neg (by omega)] at hs
                exact (no hs.symm).symm
            · rw [if_neg hb2]
              rw [if_neg (by omega)] at hs
              exact (no hs.symm).symm
          · rw [if_neg hb]
            rw [if_neg (by omega)] at hs
            exact (no hs.symm).symm
        · rw [if_pos (by omega)]
          rw [if_neg (by omega)] at hs
          exact (no hs.symm).symm
      · simp (disch := omega) only [↓if_pos, ↓if_neg] at hs ⊢
        by_cases hsh : i + 4 ≤ a.length
        · rw [if_neg (by omega), in1 (h := by omega) (h1 := by omega) (hi0 := by omega) (hn := by omega) (ha := ha), e1, hc1]
          by_cases hb : 128 ≤ c1 ∧ c1 ≤ 143
          · rw [if_pos hb, in1 (h := by omega) (h1 := by omega) (hi0 := by omega) (hn := by omega) (ha := ha), e2, hc2]
            by_cases hb2 : 128 ≤ c2 ∧ c2 ≤ 191
            · rw [if_pos hb2, in1 (h := by omega) (h1 := by omega) (hi0 := by omega) (hn := by omega) (ha := ha), e3, hc3]
              by_cases hb3 : 128 ≤ c3 ∧ c3 ≤ 191
              · rw [if_pos hb3, in0 (h := by omega), w6, w10 hsh]
                rw [if_pos (by omega)] at hs
                exact (step 4 hs.symm (by omega) (by omega)).symm
              · rw [if_neg hb3]
                rw [if_neg (by omega)] at hs
                exact (no hs.symm).symm
            · rw [if_neg hb2]
              rw [if_neg (by omega)] at hs
              exact (no hs.symm).symm
          · rw [if_neg hb]
            rw [if_neg (by omega)] at hs
            exact (no hs.symm).symm
        · rw [if_pos (by omega)]
          rw [if_neg (by omega)] at hs
          exact (no hs.symm).symm
      · simp (disch := omega) only [↓if_pos, ↓if_neg] at hs ⊢
        by_cases hsh : i + 4 ≤ a.length
        · rw [if_neg (by omega), in1 (h := by omega) (h1 := by omega) (hi0 := by omega) (hn := by omega) (ha := ha), e1, hc1]
          by_cases hb : 128 ≤ c1 ∧ c1 ≤ 191
          · rw [if_pos hb, in1 (h := by omega) (h1 := by omega) (hi0 := by omega) (hn := by omega) (ha := ha), e2, hc2]
            by_cases hb2 : 128 ≤ c2 ∧ c2 ≤ 191
            · rw [if_pos hb2, in1 (h := by omega) (h1 := by omega) (hi0 := by omega) (hn := by omega) (ha := ha), e3, hc3]
              by_cases hb3 : 128 ≤ c3 ∧ c3 ≤ 191
              · rw [if_pos hb3, in0 (h := by omega), w6, w10 hsh]
                rw [if_pos (by omega)] at hs
                exact (step 4 hs.symm (by omega) (by omega)).symm
              · rw [if_neg hb3]
                rw [if_neg (by omega)] at hs
                exact (no hs.symm).symm
            · rw [if_neg hb2]
              rw [if_neg (by omega)] at hs
              exact (no hs.symm).symm
          · rw [if_neg hb]
            rw [if_neg (by omega)] at hs
            exact (no hs.symm).symm
        · rw [if_pos (by omega)]
          rw [if_neg (by omega)] at hs
          exact (no hs.symm).symm
      · simp (disch := omega) only [↓if_pos, ↓if_neg] at hs ⊢
        exact (no hs.symm).symm

end Go.Trm.G1
