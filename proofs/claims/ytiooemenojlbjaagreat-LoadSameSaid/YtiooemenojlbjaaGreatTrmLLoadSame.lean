import Derived.Test.YtiooemenojlbjaaGreatTrmQLoad
import Derived.Test.YtiooemenojlbjaaGreatTrmArgs
set_option linter.unusedVariables false
set_option linter.unusedSimpArgs false
namespace Go.Trm.G1
theorem cv63 {n : Nat} (h : n ≤ 2 ^ 63 - 1) : n ≤ 9223372036854775807 := by omega
theorem okB_of {l : List ((Int) × (Int) × (Int) × (Int) × (List (Int)) × Unit)} (h : okI (.sl 118 (.pair (.int .i64) (.pair (.int .i64) (.pair (.int .i64) (.pair (.int .i64) (.pair (.sl 3 (.int .i64)) .unit)))))) l) : okB l :=
  ⟨cv63 h.1, fun y hy => cv63 (h.2 y hy).2.2.2.2.1.1⟩
theorem lens_of (m : Ty21.I) (h : okI Ty21 m) : LensOk m where
  types := cv63 h.1.1
  type := fun y hy => ⟨cv63 (h.1.2 y hy).1.1, cv63 (h.1.2 y hy).2.1.1⟩
  imports := cv63 h.2.1.1
  funcs := cv63 h.2.2.1.1
  func := fun y hy => ⟨cv63 (h.2.2.1.2 y hy).2.1.1, okB_of (h.2.2.1.2 y hy).2.2.1⟩
  tables := cv63 h.2.2.2.1.1
  mems := cv63 h.2.2.2.2.1.1
  globals := cv63 h.2.2.2.2.2.1.1
  global := fun y hy => okB_of (h.2.2.2.2.2.1.2 y hy).2.2.1
  exports := cv63 h.2.2.2.2.2.2.1.1
  starts := cv63 h.2.2.2.2.2.2.2.1.1
  elems := cv63 h.2.2.2.2.2.2.2.2.1.1
  elem := fun y hy => ⟨okB_of (h.2.2.2.2.2.2.2.2.1.2 y hy).2.1, cv63 (h.2.2.2.2.2.2.2.2.1.2 y hy).2.2.1.1⟩
  counts := cv63 h.2.2.2.2.2.2.2.2.2.1.1
  datas := cv63 h.2.2.2.2.2.2.2.2.2.2.1.1
  data := fun y hy => okB_of (h.2.2.2.2.2.2.2.2.2.2.1.2 y hy).2.1
  customs := cv63 h.2.2.2.2.2.2.2.2.2.2.2.1.1
theorem mod_of (m : Ty21.I) (h : okI Ty21 m) : ModOk m where
  lens := lens_of m h
  dbytes := fun y hy => ⟨cv63 (h.2.2.2.2.2.2.2.2.2.2.1.2 y hy).2.2.1.1, fun n hn => (h.2.2.2.2.2.2.2.2.2.2.1.2 y hy).2.2.1.2 n hn⟩
  cbytes := fun y hy => ⟨cv63 (h.2.2.2.2.2.2.2.2.2.2.2.1.2 y hy).2.1.1, fun n hn => (h.2.2.2.2.2.2.2.2.2.2.2.1.2 y hy).2.1.2 n hn⟩
theorem load_same0 (a b : It7) (ha : ModOk a) (hb : ModOk b) : p_law11_LoadSame a b Yes = some () := by
  unfold p_law11_LoadSame
  rw [awake11]
  dsimp only
  rw [Bool.not_true, cond_false]
  obtain ⟨s1, h1, _⟩ := short8 a (fun r3 => cond (!r3) (Yes true) (p_ref08_Short b fun r5 => cond (!r5) (Yes true) (p_load_Same a b fun r7 => p_ref08_Same a b fun r8 => cond (r7 == r8) (p_load_Same a a fun r10 => cond r10 (p_load_Same a b fun r11 => p_load_Same b a fun r12 => Yes (r11 == r12)) (Yes false)) (Yes false)))) ha.lens
  refine h1.trans ?_
  cases s1 with
  | false => rfl
  | true =>
    rw [Bool.not_true, cond_false]
    obtain ⟨s2, h2, _⟩ := short8 b (fun r5 => cond (!r5) (Yes true) (p_load_Same a b fun r7 => p_ref08_Same a b fun r8 => cond (r7 == r8) (p_load_Same a a fun r10 => cond r10 (p_load_Same a b fun r11 => p_load_Same b a fun r12 => Yes (r11 == r12)) (Yes false)) (Yes false))) hb.lens
    refine h2.trans ?_
    cases s2 with
    | false => rfl
    | true =>
      rw [Bool.not_true, cond_false, load_same_eq _ _ _ ha hb, ref_same_eq a b _ ha, BEq.rfl, cond_true, load_same_eq _ _ _ ha ha, sameD_self, cond_true, load_same_eq _ _ _ ha hb, load_same_eq _ _ _ hb ha, sameD_symm b a, BEq.rfl]
      rfl
theorem load_same (a b : Ty21.I) (ha : okI Ty21 a) (hb : okI Ty21 b) : p_law11_LoadSame a b Yes = some () := load_same0 a b (mod_of a ha) (mod_of b hb)
end Go.Trm.G1
