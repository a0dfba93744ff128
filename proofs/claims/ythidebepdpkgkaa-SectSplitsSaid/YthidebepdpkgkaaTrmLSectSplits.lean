import Derived.Test.YthidebepdpkgkaaTrmPRefSect
import Derived.Test.YthidebepdpkgkaaTrmPJoin
import Derived.Test.YthidebepdpkgkaaTrmLift
set_option linter.unusedVariables false
set_option linter.unusedSimpArgs false
namespace Go.Trm.G1

theorem sect_splits (b : List Int) (hb : ∀ n ∈ b, IntKind.u8.has n) : p_law07_SectSplits b Yes = some () := by
  have hby := u8_bytes hb
  unfold p_law07_SectSplits
  rw [awake07_eq]
  simp only [cond_not, cond_true, cond_inR]
  rw [show (70000 : Int) = ((70000 : Nat) : Int) from rfl, minI_nat, rng_to, if_pos (by omega)]
  have h1 : (b.take (min b.length 70000)).length ≤ 70000 := by rw [List.length_take]; omega
  have h3 := bytes_take hby (min b.length 70000)
  generalize b.take (min b.length 70000) = x at *
  obtain ⟨q1, q2⟩ := splitL_len fuel64 x
  rw [split_eq x _ h3 h1, refsplit_eq x _ h3 h1, told_eq _ _ (by omega), same_eq _ _ _ (by omega) (fun s hs => by have := q2 s hs; omega), if_pos rfl]
  simp

end Go.Trm.G1
