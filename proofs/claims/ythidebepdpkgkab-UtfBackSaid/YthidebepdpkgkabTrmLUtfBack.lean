import Derived.Test.YthidebepdpkgkabTrmPAwake
set_option linter.unusedVariables false
set_option linter.unusedSimpArgs false
namespace Go.Trm.G1

theorem utf_back (s : List UInt8) (more : List Int) (hs : s.length ≤ 140737488351232) (hm : ∀ n ∈ more, IntKind.u8.has n) : p_law02_UtfBack s more Yes = some () := by
  have hmost : most = 4294967296 := rfl
  have hby := u8_bytes hm
  unfold p_law02_UtfBack
  rw [p10_eq]
  simp only [cond_not, cond_true, cond_inR, cond_dec, cond_ne, cond_eq]
  rw [show (1000 : Int) = ((1000 : Nat) : Int) from rfl, minI_nat, rng_to, if_pos (by omega)]
  have h1 : (more.take (min more.length 1000)).length ≤ 1000 := by rw [List.length_take]; omega
  have h3 := bytes_take hby (min more.length 1000)
  generalize more.take (min more.length 1000) = x at *
  rw [p24_eq _ _ _ (by simp) hs]
  cases hv : valid (nums s) with
  | false => rfl
  | true =>
    simp only [Bool.true_eq_false, if_false]
    by_cases h64 : s.length > 64
    · rw [if_pos h64]; rfl
    · have hp : putN 9 (s.length : Int) = [(s.length : Int)] := by
        unfold putN
        rw [if_pos (by omega)]
      rw [if_neg h64, if_pos trivial, hp, List.nil_append, List.singleton_append, List.cons_append]
      have hbx : bytes (nums s ++ x) := fun i => by
        by_cases hi : i < (nums s).length
        · rw [app_getD hi]; exact nums_get s i
        · have : (nums s ++ x).getD i 0 = x.getD (i - (nums s).length) 0 := by
            simp [List.getD_eq_getElem?_getD, List.getElem?_append_right (Nat.le_of_not_lt hi)]
          rw [this]
          exact h3 _
      have hby2 : bytes ((s.length : Int) :: (nums s ++ x)) := fun i => by
        cases i with
        | zero => show 0 ≤ (s.length : Int) ∧ (s.length : Int) ≤ 255; omega
        | succ i => exact hbx i
      have hlen : ((s.length : Int) :: (nums s ++ x)).length = s.length + x.length + 1 := by simp [nums_len]
      have hu : u32 ((s.length : Int) :: (nums s ++ x)) = ((s.length : Int), 1, 0) := by
        unfold u32 raw
        rw [if_pos (by omega)]
        simp
      have hname : nameS ((s.length : Int) :: (nums s ++ x)) = (s, 1 + (s.length : Int), 0) := by
        unfold nameS
        rw [hu]
        simp only
        have ht : (((s.length : Int) :: (nums s ++ x)).drop (1 : Int).toNat).take (s.length : Int).toNat = nums s := by
          show ((nums s ++ x)).take (s.length : Int).toNat = nums s
          rw [Int.toNat_natCast, ← nums_len s, List.take_left]
        rw [if_neg (by simp), if_neg (by rw [hlen]; omega), ht, if_neg (by rw [hv]; simp), if_neg (by omega), u8s_nums]
      rw [if_pos (by simp [nums_len]; omega), p22_eq _ _ hby2 (by rw [hlen]; omega), hname]
      simp [nums_len]
      omega

end Go.Trm.G1
