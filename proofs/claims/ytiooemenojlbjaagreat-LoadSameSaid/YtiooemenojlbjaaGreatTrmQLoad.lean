import Derived.Test.YtiooemenojlbjaaGreatTrmQEqC
set_option linter.unusedVariables false
set_option linter.unusedSimpArgs false
namespace Go.Trm.G1

/-! What becomes of no bytes, and of a module's beginning alone -/
section
variable {R : Type}
abbrev zM : It7 := ([], ([], ([], ([], ([], ([], ([], ([], ([], ([], ([], ([], ()))))))))))))
abbrev CtxT := (List ((List (Int)) × (List (Int)) × Unit)) × (List (Int)) × It23
abbrev zC : CtxT := ([], ([], ([], ([], ([], (0, (0, (0, (0, (false, ()))))))))))
theorem dec_nil (K : It7 → Int → Option R) : p_mod_Decode [] K = K zM 1 := by
  unfold p_mod_Decode
  rw [split_nil]
  show loopN _ fuel64 _ = _
  exact loop_one fun rec => rfl
theorem dec_head (K : It7 → Int → Option R) : p_mod_Decode [0, 97, 115, 109, 1, 0, 0, 0] K = K zM 0 := by
  unfold p_mod_Decode
  rw [split_head]
  show loopN _ fuel64 _ = _
  exact loop_one fun rec => rfl
theorem load_nil (K : It7 → CtxT → Int → Int → Option R) : p_load_Load [] K = K zM zC 1 1 := by
  unfold p_load_Load
  rw [dec_nil]
  rfl
abbrev k0 : It24 := (zC, ((0 : Int), ()))
theorem imports_zero (K : It24 → Option R) : p_ctx_checker_imports k0 [] K = K k0 := by
  unfold p_ctx_checker_imports
  show loopN _ fuel64 _ = _
  exact loop_one fun rec => rfl
theorem own_zero (K : It24 → Option R) : p_ctx_checker_own k0 zM K = K k0 := by
  unfold p_ctx_checker_own
  repeat (show loopN _ fuel64 _ = _; refine loop_one fun rec => ?_)
  rfl
theorem exports_zero (K : It24 → Option R) : p_ctx_checker_exportsm1 k0 [] K = K k0 := by
  unfold p_ctx_checker_exportsm1
  simp only [both_self]
  show loopN _ fuel64 _ = _
  exact loop_one fun rec => rfl
theorem segments_zero (K : It24 → Option R) : p_ctx_checker_segmentsm1 k0 zM K = K k0 := by
  unfold p_ctx_checker_segmentsm1
  repeat (show loopN _ fuel64 _ = _; refine loop_one fun rec => ?_)
  rfl
theorem of_zero (K : CtxT → Int → Option R) : p_ctx_Of zM K = K zC 0 := by
  unfold p_ctx_Of
  show loopN _ fuel64 _ = _
  refine loop_one fun rec => ?_
  show p_ctx_checker_imports k0 [] _ = _
  rw [imports_zero]
  show p_ctx_checker_own k0 zM _ = _
  rw [own_zero]
  show p_ctx_checker_exportsm1 k0 [] _ = _
  rw [exports_zero]
  show loopN _ fuel64 _ = _
  refine loop_one fun rec => ?_
  show p_ctx_checker_segmentsm1 k0 zM _ = _
  rw [segments_zero]
  show loopN _ fuel64 _ = _
  exact loop_one fun rec => rfl
theorem all_zero (K : Int → Option R) : p_valid_All zC zM K = K 0 := by
  unfold p_valid_All
  show loopN _ fuel64 _ = _
  exact loop_one fun rec => rfl
theorem load_head (K : It7 → CtxT → Int → Int → Option R) : p_load_Load [0, 97, 115, 109, 1, 0, 0, 0] K = K zM zC 4 0 := by
  unfold p_load_Load
  rw [dec_head]
  simp only [bne_self_eq_false, cond_false]
  rw [of_zero]
  unfold J_load_Load_7
  simp only [BEq.rfl, cond_true]
  rw [all_zero]
  simp only [bne_self_eq_false, cond_false, both_self]
theorem hd8 : List.set (List.set (List.set (List.set (List.set (List.set (List.set (List.set (List.replicate 8 (0 : Int)) 0 (0 : Int)) 1 (97 : Int)) 2 (115 : Int)) 3 (109 : Int)) 4 (1 : Int)) 5 (0 : Int)) 6 (0 : Int)) 7 (0 : Int) = [0, 97, 115, 109, 1, 0, 0, 0] := rfl
theorem awake11 (K : Bool → Option R) : p_law11_awake K = K true := by
  unfold p_law11_awake
  rw [load_nil]
  simp only [hd8]
  rw [load_head]
  simp only [BEq.rfl, cond_true, List.length_cons, List.length_nil]
  rfl
end
end Go.Trm.G1
