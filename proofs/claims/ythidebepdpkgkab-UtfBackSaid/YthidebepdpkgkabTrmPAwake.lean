import Derived.Test.YthidebepdpkgkabTrmPLeb
import Derived.Test.YthidebepdpkgkabTrmLift
import Derived.KernelRfl
set_option linter.unusedVariables false
set_option linter.unusedSimpArgs false
namespace Go.Trm.G1

theorem valid_e : valid [195, 169] = true := by rw [valid_yes (by decide) (by decide)]; exact valid_nil
theorem valid_a : valid [97] = true := by rw [valid_yes (by decide) (by decide)]; exact valid_nil
theorem valid_0 : valid [192, 128] = false := valid_no (by decide) (by decide)

theorem p40_two {R : Type} (K : Int → Int → Int → Int → Option R) : p_leb_raw [2, 195, 169, 7] 32 K = K 2 2 1 0 := by
  unfold p_leb_raw fuel_leb_raw_5
  obtain ⟨m, hm⟩ := fuel_add 1 (by omega)
  rw [hm]
  kernel_rfl

theorem p11_e {R : Type} (K : Bool → Option R) : p_utf_Valid [195, 169] K = K true := by
  rw [p11_eq _ _ (by simp), if_pos]
  exact valid_e
theorem p11_a {R : Type} (K : Bool → Option R) : p_utf_Valid [97] K = K true := by
  rw [p11_eq _ _ (by simp), if_pos]
  exact valid_a
theorem p11_0 {R : Type} (K : Bool → Option R) : p_utf_Valid [192, 128] K = K false := by
  rw [p11_eq _ _ (by simp), if_neg]
  show ¬ valid [192, 128] = true
  rw [valid_0]
  decide

theorem p22_two {R : Type} (K : List UInt8 → Int → Int → Option R) : p_utf_Name [2, 195, 169, 7] K = K [195, 169] 3 0 := by
  unfold p_utf_Name p_leb_U
  rw [p40_two]
  show p_utf_Valid [195, 169] _ = _
  rw [p11_e]
  kernel_rfl

theorem p10_eq {R : Type} (K : Bool → Option R) : p_law02_awake K = K true := by
  unfold p_law02_awake
  show p_utf_Name [2, 195, 169, 7] _ = _
  rw [p22_two]
  show p_utf_Valid [97] _ = _
  rw [p11_a]
  show p_utf_Valid [192, 128] _ = _
  rw [p11_0]
  rfl

end Go.Trm.G1
