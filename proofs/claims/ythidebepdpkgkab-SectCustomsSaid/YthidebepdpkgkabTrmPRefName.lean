import Derived.Test.YthidebepdpkgkabTrmPRefLeb
import Derived.Test.YthidebepdpkgkabTrmPRefUtf
set_option linter.unusedVariables false
set_option linter.unusedSimpArgs false
namespace Go.Trm.G1

theorem p23_eq {R : Type} (l : List Int) (K : List UInt8 → Int → Int → Option R) (hb : bytes l) (hl : l.length ≤ 4294967296) : p_ref02_Name l K = K (nameS l).1 (nameS l).2.1 (nameS l).2.2 := by
  unfold p_ref02_Name
  rw [p35_eq l _ hb (by omega)]
  unfold nameS
  simp only [cond_ne, cond_dec, cond_inR, cond_not]
  by_cases he : (u32 l).2.2 = 0
  · obtain ⟨h1, h2, h3, h4⟩ := u32_ok hb he
    rw [if_pos he, if_neg (show ¬ (u32 l).2.2 ≠ 0 from fun h => h he)]
    generalize (u32 l).1 = n at *
    generalize (u32 l).2.1 = k at *
    have hrl : rng l k (l.length : Int) = l.drop k.toNat := by simp [rng]
    have hdl : (((l.drop k.toNat).length : Nat) : Int) = (l.length : Int) - k := by rw [List.length_drop]; omega
    rw [if_pos (by omega), hrl, hdl, w_u64 (n := (l.length : Int) - k) (by omega)]
    by_cases hn : n > (l.length : Int) - k
    · rw [if_pos hn, if_pos hn]
    · have hr0 : rng (l.drop k.toNat) 0 n = (l.drop k.toNat).take n.toNat := by simp [rng]
      rw [if_neg hn, if_neg hn, if_pos (by omega), hr0]
      have hbt : bytes ((l.drop k.toNat).take n.toNat) := bytes_take (bytes_drop hb _) _
      have hlt : (((l.drop k.toNat).take n.toNat).length : Int) = n := by rw [List.length_take, List.length_drop]; omega
      rw [p12_eq _ _ (by rw [u8s_len]; unfold most; omega), nums_u8s (bytes_u8 hbt)]
      cases hv : valid ((l.drop k.toNat).take n.toNat) with
      | false => rfl
      | true =>
        simp only [if_true, cond_true, Bool.true_eq_false, if_false]
        by_cases h64 : n > 64
        · rw [if_pos h64, if_pos h64]
        · rw [if_neg h64, if_neg h64, w_i64 (n := n) (by omega), w_i64 (by omega)]
  · rw [if_neg he, if_pos he]

end Go.Trm.G1
