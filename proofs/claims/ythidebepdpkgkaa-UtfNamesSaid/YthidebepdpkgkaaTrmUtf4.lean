import Derived.Test.YthidebepdpkgkaaTrmUtf3
set_option linter.unusedVariables false
set_option linter.unusedSimpArgs false
namespace Go.Trm.G1

theorem ite_le {A B C D : Prop} [Decidable A] [Decidable B] [Decidable C] [Decidable D] {n : Nat} (ha : A → 1 ≤ n) (hb : B → 2 ≤ n) (hc : C → 3 ≤ n) (hd : D → 4 ≤ n) : (if A then 1 else if B then 2 else if C then 3 else if D then 4 else 0) ≤ n := by
  by_cases a : A
  · rw [if_pos a]; exact ha a
  · rw [if_neg a]
    by_cases b : B
    · rw [if_pos b]; exact hb b
    · rw [if_neg b]
      by_cases c : C
      · rw [if_pos c]; exact hc c
      · rw [if_neg c]
        by_cases d : D
        · rw [if_pos d]; exact hd d
        · rw [if_neg d]; exact Nat.zero_le _
theorem stp_le (l : List Int) (h : l ≠ []) : stp l ≤ l.length := by
  have h1 : 1 ≤ l.length := by cases l with | nil => exact absurd rfl h | cons a l => simp
  exact ite_le (fun _ => h1) (fun h => h.2.2.1) (fun h => h.2.2.1) (fun h => h.2.2.1)

theorem app_getD {l m : List Int} {i : Nat} (h : i < l.length) : (l ++ m).getD i 0 = l.getD i 0 := by
  simp [List.getD_eq_getElem?_getD, List.getElem?_append_left h]

/-- what stands behind a character plays no part -/
theorem stp_app (l m : List Int) (h : l ≠ []) (h0 : stp l ≠ 0) : stp (l ++ m) = stp l := by
  have h1 : 0 < l.length := by cases l with | nil => exact absurd rfl h | cons a l => simp
  have e0 : (l ++ m).getD 0 0 = l.getD 0 0 := app_getD h1
  have hl : l.length ≤ (l ++ m).length := by simp
  unfold stp at h0 ⊢
  dsimp only at h0 ⊢
  rw [e0]
  by_cases c : l.getD 0 0 < 128
  · rw [if_pos c, if_pos c]
  · rw [if_neg c] at h0 ⊢
    rw [if_neg c]
    by_cases c1 : 194 ≤ l.getD 0 0 ∧ l.getD 0 0 ≤ 223 ∧ 2 ≤ l.length ∧ 128 ≤ l.getD 1 0 ∧ l.getD 1 0 ≤ 191
    · rw [if_pos c1, if_pos (by rw [app_getD (by omega)]; omega)]
    · rw [if_neg c1] at h0 ⊢
      by_cases c2 : 224 ≤ l.getD 0 0 ∧ l.getD 0 0 ≤ 239 ∧ 3 ≤ l.length ∧ (if l.getD 0 0 = 224 then 160 else 128) ≤ l.getD 1 0 ∧ l.getD 1 0 ≤ (if l.getD 0 0 = 237 then 159 else 191) ∧ 128 ≤ l.getD 2 0 ∧ l.getD 2 0 ≤ 191
      · rw [if_pos c2]
        rw [if_neg (by omega), if_pos (by rw [app_getD (by omega), app_getD (by omega)]; exact ⟨c2.1, c2.2.1, by omega, c2.2.2.2⟩)]
      · rw [if_neg c2] at h0 ⊢
        by_cases c3 : 240 ≤ l.getD 0 0 ∧ l.getD 0 0 ≤ 244 ∧ 4 ≤ l.length ∧ (if l.getD 0 0 = 240 then 144 else 128) ≤ l.getD 1 0 ∧ l.getD 1 0 ≤ (if l.getD 0 0 = 244 then 143 else 191) ∧ 128 ≤ l.getD 2 0 ∧ l.getD 2 0 ≤ 191 ∧ 128 ≤ l.getD 3 0 ∧ l.getD 3 0 ≤ 191
        · rw [if_pos c3]
          rw [if_neg (by omega), if_neg (by omega), if_pos (by rw [app_getD (by omega), app_getD (by omega), app_getD (by omega)]; exact ⟨c3.1, c3.2.1, by omega, c3.2.2.2⟩)]
        · rw [if_neg c3] at h0
          exact absurd rfl h0

theorem valid_app (m : List Int) : ∀ (n : Nat) (l : List Int), l.length ≤ n → valid l = true → valid (l ++ m) = valid m := by
  intro n
  induction n with
  | zero =>
    intro l hl _
    have : l = [] := List.eq_nil_of_length_eq_zero (by omega)
    subst this; rfl
  | succ n ih =>
    intro l hl h
    by_cases h0 : l = []
    · subst h0; rfl
    · by_cases h1 : stp l = 0
      · rw [valid_no h0 h1] at h; cases h
      · have hle := stp_le l h0
        have hpos : 0 < l.length := by omega
        rw [valid_yes h1 h0] at h
        have hs := stp_app l m h0 h1
        rw [valid_yes (by rw [hs]; exact h1) (by simp [h0]), hs, List.drop_append_of_le_length hle]
        exact ih _ (by rw [List.length_drop]; omega) h

theorem nums_app (a b : List UInt8) : nums (a ++ b) = nums a ++ nums b := by simp [nums]

theorem minI_nat (n m : Nat) : minI (n : Int) (m : Int) = ((min n m : Nat) : Int) := by
  unfold minI
  split <;> omega
theorem rng_to {α : Type} (l : List α) (n : Nat) : rng l 0 (n : Int) = l.take n := by simp [rng]

theorem utf_joined (a b : List UInt8) : p4 a b Yes = some () := by
  unfold p4
  rw [p10_eq]
  simp only [cond_not, cond_true, cond_inR, cond_dec]
  rw [show (1000 : Int) = ((1000 : Nat) : Int) from rfl, minI_nat, minI_nat, rng_to, rng_to, if_pos (by omega), if_pos (by omega)]
  have h1 : (a.take (min a.length 1000)).length ≤ 1000 := by rw [List.length_take]; omega
  have h2 : (b.take (min b.length 1000)).length ≤ 1000 := by rw [List.length_take]; omega
  generalize a.take (min a.length 1000) = x at *
  generalize b.take (min b.length 1000) = y at *
  have h3 : (x ++ y).length ≤ 2000 := by rw [List.length_append]; omega
  simp only [fun K => p11_eq (R := Unit) x K (by omega), fun K => p11_eq (R := Unit) y K (by omega), fun K => p11_eq (R := Unit) (x ++ y) K (by omega)]
  have hm : x.length + y.length ≤ most := by unfold most; omega
  simp only [if_pos hm, nums_app]
  by_cases hx : valid (nums x) = true
  · rw [valid_app (nums y) _ _ (Nat.le_refl _) hx]
    simp only [if_pos hx]
    split <;> rfl
  · simp only [if_neg hx]
    split <;> split <;> rfl

end Go.Trm.G1
