import Derived.Test.YthidebepdpkgkabTrmPAwake
set_option linter.unusedVariables false
set_option linter.unusedSimpArgs false
namespace Go.Trm.G1

theorem utf_cut (s : List UInt8) (at_ : Int) (hs : s.length ≤ 140737488351232) : p_law02_UtfCut s at_ Yes = some () := by
  have hmost : most = 4294967296 := rfl
  unfold p_law02_UtfCut
  rw [p10_eq]
  simp only [cond_not, cond_true, cond_inR, cond_inB, cond_dec, cond_ne, cond_eq]
  rw [p24_eq _ _ _ (by simp) (by omega)]
  cases hv : valid (nums s) with
  | false => rfl
  | true =>
    simp only [Bool.true_eq_false, if_false]
    by_cases h64 : s.length > 64
    · rw [if_pos h64]; rfl
    · rw [if_neg h64, if_pos trivial]
      have hp : putN 9 (s.length : Int) = [(s.length : Int)] := by
        unfold putN
        rw [if_pos (by omega)]
      rw [hp, List.nil_append, List.singleton_append]
      by_cases ha : at_ < 0
      · rw [if_pos ha]
      · rw [if_neg ha]
        have hl : (((s.length : Int) :: nums s).length : Int) = (s.length : Int) + 1 := by simp [nums_len]
        rw [hl]
        by_cases hb : at_ ≥ (s.length : Int) + 1
        · rw [if_pos hb]
        · rw [if_neg hb, if_pos (by omega)]
          obtain ⟨n, rfl⟩ := Int.eq_ofNat_of_zero_le (by omega : 0 ≤ at_)
          rw [rng_to]
          have hby : bytes ((s.length : Int) :: nums s) := fun i => by
            cases i with
            | zero => show 0 ≤ (s.length : Int) ∧ (s.length : Int) ≤ 255; omega
            | succ i => exact nums_get s i
          have hbt := bytes_take hby n
          have hname : nameS (((s.length : Int) :: nums s).take n) = ([], 0, 1) := by
            cases n with
            | zero => rfl
            | succ n =>
              rw [List.take_succ_cons]
              have hu : u32 ((s.length : Int) :: (nums s).take n) = ((s.length : Int), 1, 0) := by
                unfold u32 raw
                rw [if_pos (by omega)]
                simp
              unfold nameS
              rw [hu]
              have : ((((s.length : Int) :: (nums s).take n).length : Nat) : Int) = n + 1 := by
                rw [List.length_cons, List.length_take, nums_len]
                omega
              rw [if_neg (by simp), this, if_pos (by simp only; omega)]
          rw [p22_eq _ _ hbt (by rw [List.length_take]; simp only [List.length_cons, nums_len]; omega), hname]
          simp only [if_true]
          by_cases hc : (n : Int) ≥ (s.length : Int)
          · rw [if_pos hc]
          · rw [if_neg hc, if_pos (by omega), if_pos (by omega), bt_nums, Int.toNat_natCast, rng_to]
            simp only [fun K => p11_eq (R := Unit) (s.take n) K (by rw [List.length_take]; omega), nums_take]
            rw [valid_cut _ (nums s) n (Nat.le_refl _) hv (by rw [nums_len]; omega)]
            have hg := nums_get s n
            generalize (nums s).getD n 0 = c at *
            by_cases q1 : c < 128
            · simp [q1]
            · by_cases q2 : 191 < c
              · simp [q1, q2, show (0 : Int) ≤ n by omega, show (n : Int) < s.length by omega]
              · simp [q1, q2, show (0 : Int) ≤ n by omega, show (n : Int) < s.length by omega]

end Go.Trm.G1
