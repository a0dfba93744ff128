import Derived.Test.YthidebepdpkgkaaTrmUtf2
import Derived.KernelRfl
import Derived.Test.YthidebepdpkgkaaTrmLift
set_option linter.unusedVariables false
set_option linter.unusedSimpArgs false
namespace Go.Trm.G1

theorem valid_e : valid [195, 169] = true := by rw [valid_yes (by decide) (by decide)]; exact valid_nil
theorem valid_a : valid [97] = true := by rw [valid_yes (by decide) (by decide)]; exact valid_nil
theorem valid_0 : valid [192, 128] = false := valid_no (by decide) (by decide)

theorem p40_two {R : Type} (K : Int → Int → Int → Int → Option R) : p40 [2, 195, 169, 7] 32 K = K 2 2 1 0 := by
  unfold p40 fuel40_5
  obtain ⟨m, hm⟩ := fuel_add 1 (by omega)
  rw [hm]
  kernel_rfl

theorem p11_e {R : Type} (K : Bool → Option R) : p11 [195, 169] K = K true := by
  rw [p11_eq _ _ (by simp), if_pos]
  exact valid_e
theorem p11_a {R : Type} (K : Bool → Option R) : p11 [97] K = K true := by
  rw [p11_eq _ _ (by simp), if_pos]
  exact valid_a
theorem p11_0 {R : Type} (K : Bool → Option R) : p11 [192, 128] K = K false := by
  rw [p11_eq _ _ (by simp), if_neg]
  show ¬ valid [192, 128] = true
  rw [valid_0]
  decide

theorem p22_two {R : Type} (K : List UInt8 → Int → Int → Option R) : p22 [2, 195, 169, 7] K = K [195, 169] 3 0 := by
  unfold p22 p32
  rw [p40_two]
  show p11 [195, 169] _ = _
  rw [p11_e]
  kernel_rfl

theorem p10_eq {R : Type} (K : Bool → Option R) : p10 K = K true := by
  unfold p10
  show p22 [2, 195, 169, 7] _ = _
  rw [p22_two]
  show p11 [97] _ = _
  rw [p11_a]
  show p11 [192, 128] _ = _
  rw [p11_0]
  rfl

theorem utf_right (a : List UInt8) : p3 a Yes = some () := by
  unfold p3
  rw [p10_eq]
  simp only [cond_not, cond_true, cond_inR]
  have hm : minI ((a.length : Nat) : Int) 3000 = ((min a.length 3000 : Nat) : Int) := by
    unfold minI
    split <;> omega
  rw [hm, if_pos (by omega)]
  have hr : (rng a 0 ((min a.length 3000 : Nat) : Int)) = a.take (min a.length 3000) := by simp [rng]
  rw [hr]
  have hl : (a.take (min a.length 3000)).length ≤ 3000 := by rw [List.length_take]; omega
  rw [p11_eq _ _ (by omega)]
  have h12 := fun K => p12_eq (R := Unit) (a.take (min a.length 3000)) K (by unfold most; omega)
  simp only [h12]
  split <;> rfl

end Go.Trm.G1
