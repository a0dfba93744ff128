import Derived.Test.YtiooemenojlbjaaGreatTrmQShort
set_option linter.unusedVariables false
set_option linter.unusedSimpArgs false
namespace Go.Trm.G1

/-! Both sides: whether two modules are equal -/

structure ModOk (m : It7) : Prop where
  lens : LensOk m
  dbytes : ∀ y ∈ m.2.2.2.2.2.2.2.2.2.2.1, y.2.2.1.length ≤ 9223372036854775807 ∧ byL y.2.2.1
  cbytes : ∀ y ∈ m.2.2.2.2.2.2.2.2.2.2.2.1, y.2.1.length ≤ 9223372036854775807 ∧ byL y.2.1

noncomputable def sameD (a b : It7) : Bool := (decide (a.1 = b.1) && (decide (a.2.1 = b.2.1) && (decide (a.2.2.1 = b.2.2.1) && (decide (a.2.2.2.1 = b.2.2.2.1) && (decide (a.2.2.2.2.1 = b.2.2.2.2.1) && (decide (a.2.2.2.2.2.1 = b.2.2.2.2.2.1) && (decide (a.2.2.2.2.2.2.1 = b.2.2.2.2.2.2.1) && (decide (a.2.2.2.2.2.2.2.1 = b.2.2.2.2.2.2.2.1) && (decide (a.2.2.2.2.2.2.2.2.1 = b.2.2.2.2.2.2.2.2.1) && (decide (a.2.2.2.2.2.2.2.2.2.1 = b.2.2.2.2.2.2.2.2.2.1) && (decide (a.2.2.2.2.2.2.2.2.2.2.1 = b.2.2.2.2.2.2.2.2.2.2.1) && decide (a.2.2.2.2.2.2.2.2.2.2.2.1 = b.2.2.2.2.2.2.2.2.2.2.2.1))))))))))))
theorem sameD_self (a : It7) : sameD a a = true := by simp [sameD]
theorem sameD_symm (a b : It7) : sameD a b = sameD b a := by
  unfold sameD
  have h : ∀ {α : Type} [DecidableEq α] (x y : α), decide (x = y) = decide (y = x) := fun x y => decide_eq_decide.2 ⟨Eq.symm, Eq.symm⟩
  rw [h a.1, h a.2.1, h a.2.2.1, h a.2.2.2.1, h a.2.2.2.2.1, h a.2.2.2.2.2.1, h a.2.2.2.2.2.2.1, h a.2.2.2.2.2.2.2.1, h a.2.2.2.2.2.2.2.2.1, h a.2.2.2.2.2.2.2.2.2.1, h a.2.2.2.2.2.2.2.2.2.2.1, h a.2.2.2.2.2.2.2.2.2.2.2.1]

section
variable {R : Type}
theorem load_same_eq (a b : It7) (K : Bool → Option R) (ha : ModOk a) (hb : ModOk b) : p_load_Same a b K = K (sameD a b) := by
  unfold p_load_Same sameD
  rw [slices_EqualFunc_FuncTypeg20_eq a.1 b.1 _ ha.lens.types ha.lens.type]
  cases h0 : decide (a.1 = b.1)
  · rfl
  rw [cond_true, Bool.true_and]
  rw [slices_Equal_Import_eq a.2.1 b.2.1 _ ha.lens.imports]
  cases h1 : decide (a.2.1 = b.2.1)
  · rfl
  rw [cond_true, Bool.true_and]
  rw [slices_EqualFunc_Funcg24_eq a.2.2.1 b.2.2.1 _ ha.lens.funcs ha.lens.func]
  cases h2 : decide (a.2.2.1 = b.2.2.1)
  · rfl
  rw [cond_true, Bool.true_and]
  rw [slices_Equal_Limits_eq a.2.2.2.1 b.2.2.2.1 _ ha.lens.tables]
  cases h3 : decide (a.2.2.2.1 = b.2.2.2.1)
  · rfl
  rw [cond_true, Bool.true_and]
  rw [slices_Equal_Limits_eq a.2.2.2.2.1 b.2.2.2.2.1 _ ha.lens.mems]
  cases h4 : decide (a.2.2.2.2.1 = b.2.2.2.2.1)
  · rfl
  rw [cond_true, Bool.true_and]
  rw [slices_EqualFunc_Globalg28_eq a.2.2.2.2.2.1 b.2.2.2.2.2.1 _ ha.lens.globals ha.lens.global]
  cases h5 : decide (a.2.2.2.2.2.1 = b.2.2.2.2.2.1)
  · rfl
  rw [cond_true, Bool.true_and]
  rw [slices_Equal_Export_eq a.2.2.2.2.2.2.1 b.2.2.2.2.2.2.1 _ ha.lens.exports]
  cases h6 : decide (a.2.2.2.2.2.2.1 = b.2.2.2.2.2.2.1)
  · rfl
  rw [cond_true, Bool.true_and]
  rw [slices_EqualInt_eq a.2.2.2.2.2.2.2.1 b.2.2.2.2.2.2.2.1 _ ha.lens.starts]
  cases h7 : decide (a.2.2.2.2.2.2.2.1 = b.2.2.2.2.2.2.2.1)
  · rfl
  rw [cond_true, Bool.true_and]
  rw [slices_EqualFunc_Elemg31_eq a.2.2.2.2.2.2.2.2.1 b.2.2.2.2.2.2.2.2.1 _ ha.lens.elems ha.lens.elem]
  cases h8 : decide (a.2.2.2.2.2.2.2.2.1 = b.2.2.2.2.2.2.2.2.1)
  · rfl
  rw [cond_true, Bool.true_and]
  rw [slices_EqualInt_eq a.2.2.2.2.2.2.2.2.2.1 b.2.2.2.2.2.2.2.2.2.1 _ ha.lens.counts]
  cases h9 : decide (a.2.2.2.2.2.2.2.2.2.1 = b.2.2.2.2.2.2.2.2.2.1)
  · rfl
  rw [cond_true, Bool.true_and]
  rw [slices_EqualFunc_Datag33_eq a.2.2.2.2.2.2.2.2.2.2.1 b.2.2.2.2.2.2.2.2.2.2.1 _ ha.lens.datas (fun y hy => ⟨ha.lens.data y hy, (ha.dbytes y hy).2⟩) (fun y hy => (hb.dbytes y hy).2)]
  cases h10 : decide (a.2.2.2.2.2.2.2.2.2.2.1 = b.2.2.2.2.2.2.2.2.2.2.1)
  · rfl
  rw [cond_true, Bool.true_and]
  rw [slices_EqualFunc_Customg36_eq a.2.2.2.2.2.2.2.2.2.2.2.1 b.2.2.2.2.2.2.2.2.2.2.2.1 _ ha.lens.customs (fun y hy => (ha.cbytes y hy).2) (fun y hy => (hb.cbytes y hy).2)]

theorem q8_5 (kx : It7 → It7 → Bool → Option R) (a b : It7) (ok : Bool) (ha : ModOk a) (hl : a.1.length = b.1.length) : loopN (B_ref08_Same_5 kx) (fuel_ref08_Same_5 ⟨a, b, ok, (0 : Int)⟩) ⟨a, b, ok, (0 : Int)⟩ = kx a b (ok && decide (a.1 = b.1)) :=
  (r8_5 kx a b ha.lens.types hl ha.lens.type fuel64 0 ok (Nat.zero_le _) (lt_fuel (by have := ha.lens.types; omega))).trans (by rw [List.drop_zero, List.drop_zero])
theorem q8_9 (kx : It7 → It7 → Bool → Option R) (a b : It7) (ok : Bool) (ha : ModOk a) (hl : a.2.1.length = b.2.1.length) : loopN (B_ref08_Same_9 kx) (fuel_ref08_Same_9 ⟨a, b, ok, (0 : Int)⟩) ⟨a, b, ok, (0 : Int)⟩ = kx a b (ok && decide (a.2.1 = b.2.1)) :=
  (r8_9 kx a b ha.lens.imports hl fuel64 0 ok (Nat.zero_le _) (lt_fuel (by have := ha.lens.imports; omega))).trans (by rw [List.drop_zero, List.drop_zero])
theorem q8_13 (kx : It7 → It7 → Bool → Option R) (a b : It7) (ok : Bool) (ha : ModOk a) (hl : a.2.2.1.length = b.2.2.1.length) : loopN (B_ref08_Same_13 kx) (fuel_ref08_Same_13 ⟨a, b, ok, (0 : Int)⟩) ⟨a, b, ok, (0 : Int)⟩ = kx a b (ok && decide (a.2.2.1 = b.2.2.1)) :=
  (r8_13 kx a b ha.lens.funcs hl ha.lens.func fuel64 0 ok (Nat.zero_le _) (lt_fuel (by have := ha.lens.funcs; omega))).trans (by rw [List.drop_zero, List.drop_zero])
theorem q8_17 (kx : It7 → It7 → Bool → Option R) (a b : It7) (ok : Bool) (ha : ModOk a) (hl : a.2.2.2.1.length = b.2.2.2.1.length) : loopN (B_ref08_Same_17 kx) (fuel_ref08_Same_17 ⟨a, b, ok, (0 : Int)⟩) ⟨a, b, ok, (0 : Int)⟩ = kx a b (ok && decide (a.2.2.2.1 = b.2.2.2.1)) :=
  (r8_17 kx a b ha.lens.tables hl fuel64 0 ok (Nat.zero_le _) (lt_fuel (by have := ha.lens.tables; omega))).trans (by rw [List.drop_zero, List.drop_zero])
theorem q8_21 (kx : It7 → It7 → Bool → Option R) (a b : It7) (ok : Bool) (ha : ModOk a) (hl : a.2.2.2.2.1.length = b.2.2.2.2.1.length) : loopN (B_ref08_Same_21 kx) (fuel_ref08_Same_21 ⟨a, b, ok, (0 : Int)⟩) ⟨a, b, ok, (0 : Int)⟩ = kx a b (ok && decide (a.2.2.2.2.1 = b.2.2.2.2.1)) :=
  (r8_21 kx a b ha.lens.mems hl fuel64 0 ok (Nat.zero_le _) (lt_fuel (by have := ha.lens.mems; omega))).trans (by rw [List.drop_zero, List.drop_zero])
theorem q8_25 (kx : It7 → It7 → Bool → Option R) (a b : It7) (ok : Bool) (ha : ModOk a) (hl : a.2.2.2.2.2.1.length = b.2.2.2.2.2.1.length) : loopN (B_ref08_Same_25 kx) (fuel_ref08_Same_25 ⟨a, b, ok, (0 : Int)⟩) ⟨a, b, ok, (0 : Int)⟩ = kx a b (ok && decide (a.2.2.2.2.2.1 = b.2.2.2.2.2.1)) :=
  (r8_25 kx a b ha.lens.globals hl ha.lens.global fuel64 0 ok (Nat.zero_le _) (lt_fuel (by have := ha.lens.globals; omega))).trans (by rw [List.drop_zero, List.drop_zero])
theorem q8_29 (kx : It7 → It7 → Bool → Option R) (a b : It7) (ok : Bool) (ha : ModOk a) (hl : a.2.2.2.2.2.2.1.length = b.2.2.2.2.2.2.1.length) : loopN (B_ref08_Same_29 kx) (fuel_ref08_Same_29 ⟨a, b, ok, (0 : Int)⟩) ⟨a, b, ok, (0 : Int)⟩ = kx a b (ok && decide (a.2.2.2.2.2.2.1 = b.2.2.2.2.2.2.1)) :=
  (r8_29 kx a b ha.lens.exports hl fuel64 0 ok (Nat.zero_le _) (lt_fuel (by have := ha.lens.exports; omega))).trans (by rw [List.drop_zero, List.drop_zero])
theorem q8_33 (kx : It7 → It7 → Bool → Option R) (a b : It7) (ok : Bool) (ha : ModOk a) (hl : a.2.2.2.2.2.2.2.2.1.length = b.2.2.2.2.2.2.2.2.1.length) : loopN (B_ref08_Same_33 kx) (fuel_ref08_Same_33 ⟨a, b, ok, (0 : Int)⟩) ⟨a, b, ok, (0 : Int)⟩ = kx a b (ok && decide (a.2.2.2.2.2.2.2.2.1 = b.2.2.2.2.2.2.2.2.1)) :=
  (r8_33 kx a b ha.lens.elems hl ha.lens.elem fuel64 0 ok (Nat.zero_le _) (lt_fuel (by have := ha.lens.elems; omega))).trans (by rw [List.drop_zero, List.drop_zero])
theorem q8_37 (kx : It7 → It7 → Bool → Option R) (a b : It7) (ok : Bool) (ha : ModOk a) (hl : a.2.2.2.2.2.2.2.2.2.2.1.length = b.2.2.2.2.2.2.2.2.2.2.1.length) : loopN (B_ref08_Same_37 kx) (fuel_ref08_Same_37 ⟨a, b, ok, (0 : Int)⟩) ⟨a, b, ok, (0 : Int)⟩ = kx a b (ok && decide (a.2.2.2.2.2.2.2.2.2.2.1 = b.2.2.2.2.2.2.2.2.2.2.1)) :=
  (r8_37 kx a b ha.lens.datas hl (fun y hy => ⟨ha.lens.data y hy, (ha.dbytes y hy).1⟩) fuel64 0 ok (Nat.zero_le _) (lt_fuel (by have := ha.lens.datas; omega))).trans (by rw [List.drop_zero, List.drop_zero])
theorem q8_41 (kx : Bool → Option R) (a b : It7) (ok : Bool) (ha : ModOk a) (hl : a.2.2.2.2.2.2.2.2.2.2.2.1.length = b.2.2.2.2.2.2.2.2.2.2.2.1.length) : loopN (B_ref08_Same_41 kx) (fuel_ref08_Same_41 ⟨a, b, ok, (0 : Int)⟩) ⟨a, b, ok, (0 : Int)⟩ = kx (ok && decide (a.2.2.2.2.2.2.2.2.2.2.2.1 = b.2.2.2.2.2.2.2.2.2.2.2.1)) :=
  (r8_41 kx a b ha.lens.customs hl (fun y hy => (ha.cbytes y hy).1) fuel64 0 ok (Nat.zero_le _) (lt_fuel (by have := ha.lens.customs; omega))).trans (by rw [List.drop_zero, List.drop_zero])
theorem ref_same_eq (a b : It7) (K : Bool → Option R) (ha : ModOk a) : p_ref08_Same a b K = K (sameD a b) := by
  unfold p_ref08_Same
  simp only [cond_ne]
  by_cases l0 : a.1.length = b.1.length
  rotate_left
  · rw [if_neg (by omega)]
    have h0 : decide (a.1 = b.1) = false := decide_eq_false (fun hc => l0 (by rw [hc]))
    congr 1
    unfold sameD
    rw [h0]
    simp only [Bool.false_and, Bool.and_false]
  rw [if_pos (by omega)]
  by_cases l1 : a.2.1.length = b.2.1.length
  rotate_left
  · rw [if_neg (by omega)]
    have h0 : decide (a.2.1 = b.2.1) = false := decide_eq_false (fun hc => l1 (by rw [hc]))
    congr 1
    unfold sameD
    rw [h0]
    simp only [Bool.false_and, Bool.and_false]
  rw [if_pos (by omega)]
  by_cases l2 : a.2.2.1.length = b.2.2.1.length
  rotate_left
  · rw [if_neg (by omega)]
    have h0 : decide (a.2.2.1 = b.2.2.1) = false := decide_eq_false (fun hc => l2 (by rw [hc]))
    congr 1
    unfold sameD
    rw [h0]
    simp only [Bool.false_and, Bool.and_false]
  rw [if_pos (by omega)]
  by_cases l3 : a.2.2.2.1.length = b.2.2.2.1.length
  rotate_left
  · rw [if_neg (by omega)]
    have h0 : decide (a.2.2.2.1 = b.2.2.2.1) = false := decide_eq_false (fun hc => l3 (by rw [hc]))
    congr 1
    unfold sameD
    rw [h0]
    simp only [Bool.false_and, Bool.and_false]
  rw [if_pos (by omega)]
  by_cases l4 : a.2.2.2.2.1.length = b.2.2.2.2.1.length
  rotate_left
  · rw [if_neg (by omega)]
    have h0 : decide (a.2.2.2.2.1 = b.2.2.2.2.1) = false := decide_eq_false (fun hc => l4 (by rw [hc]))
    congr 1
    unfold sameD
    rw [h0]
    simp only [Bool.false_and, Bool.and_false]
  rw [if_pos (by omega)]
  by_cases l5 : a.2.2.2.2.2.1.length = b.2.2.2.2.2.1.length
  rotate_left
  · rw [if_neg (by omega)]
    have h0 : decide (a.2.2.2.2.2.1 = b.2.2.2.2.2.1) = false := decide_eq_false (fun hc => l5 (by rw [hc]))
    congr 1
    unfold sameD
    rw [h0]
    simp only [Bool.false_and, Bool.and_false]
  rw [if_pos (by omega)]
  by_cases l6 : a.2.2.2.2.2.2.1.length = b.2.2.2.2.2.2.1.length
  rotate_left
  · rw [if_neg (by omega)]
    have h0 : decide (a.2.2.2.2.2.2.1 = b.2.2.2.2.2.2.1) = false := decide_eq_false (fun hc => l6 (by rw [hc]))
    congr 1
    unfold sameD
    rw [h0]
    simp only [Bool.false_and, Bool.and_false]
  rw [if_pos (by omega)]
  by_cases l8 : a.2.2.2.2.2.2.2.2.1.length = b.2.2.2.2.2.2.2.2.1.length
  rotate_left
  · rw [if_neg (by omega)]
    have h0 : decide (a.2.2.2.2.2.2.2.2.1 = b.2.2.2.2.2.2.2.2.1) = false := decide_eq_false (fun hc => l8 (by rw [hc]))
    congr 1
    unfold sameD
    rw [h0]
    simp only [Bool.false_and, Bool.and_false]
  rw [if_pos (by omega)]
  by_cases l10 : a.2.2.2.2.2.2.2.2.2.2.1.length = b.2.2.2.2.2.2.2.2.2.2.1.length
  rotate_left
  · rw [if_neg (by omega)]
    have h0 : decide (a.2.2.2.2.2.2.2.2.2.2.1 = b.2.2.2.2.2.2.2.2.2.2.1) = false := decide_eq_false (fun hc => l10 (by rw [hc]))
    congr 1
    unfold sameD
    rw [h0]
    simp only [Bool.false_and, Bool.and_false]
  rw [if_pos (by omega)]
  by_cases l11 : a.2.2.2.2.2.2.2.2.2.2.2.1.length = b.2.2.2.2.2.2.2.2.2.2.2.1.length
  rotate_left
  · rw [if_neg (by omega)]
    have h0 : decide (a.2.2.2.2.2.2.2.2.2.2.2.1 = b.2.2.2.2.2.2.2.2.2.2.2.1) = false := decide_eq_false (fun hc => l11 (by rw [hc]))
    congr 1
    unfold sameD
    rw [h0]
    simp only [Bool.false_and, Bool.and_false]
  rw [if_pos (by omega)]
  rw [ref05_SameInts_eq _ _ _ ha.lens.starts]
  have key : ∀ ok : Bool, K (ok && decide (a.1 = b.1)) = K (ok && decide (a.1 = b.1)) := fun _ => rfl
  cases h7 : decide (a.2.2.2.2.2.2.2.1 = b.2.2.2.2.2.2.2.1)
  · rw [cond_false]
    rw [q8_5 _ _ _ _ ha l0, q8_9 _ _ _ _ ha l1, q8_13 _ _ _ _ ha l2, q8_17 _ _ _ _ ha l3, q8_21 _ _ _ _ ha l4, q8_25 _ _ _ _ ha l5, q8_29 _ _ _ _ ha l6, q8_33 _ _ _ _ ha l8, q8_37 _ _ _ _ ha l10, q8_41 _ _ _ _ ha l11]
    congr 1
    unfold sameD
    rw [h7]
    simp only [Bool.false_and, Bool.and_false]
  · rw [cond_true, ref05_SameInts_eq _ _ _ ha.lens.counts]
    rw [q8_5 _ _ _ _ ha l0, q8_9 _ _ _ _ ha l1, q8_13 _ _ _ _ ha l2, q8_17 _ _ _ _ ha l3, q8_21 _ _ _ _ ha l4, q8_25 _ _ _ _ ha l5, q8_29 _ _ _ _ ha l6, q8_33 _ _ _ _ ha l8, q8_37 _ _ _ _ ha l10, q8_41 _ _ _ _ ha l11]
    congr 1
    unfold sameD
    rw [h7]
    simp only [Bool.true_and]
    ac_rfl

theorem loop_one {X : Type} {B : (X → Option R) → X → Option R} {x : X} {r : Option R} (h : ∀ rec, B rec x = r) : loopN B fuel64 x = r := by
  obtain ⟨m, hm⟩ := fuel_add 1 (by omega)
  rw [hm]; exact h _
def itB {X : Type} (B : (X → Option R) → X → Option R) (rec : X → Option R) : Nat → X → Option R
  | 0 => rec
  | n + 1 => B (itB B rec n)
theorem loop_it {X : Type} {B : (X → Option R) → X → Option R} {x : X} {r : Option R} (k : Nat) (hk : k ≤ 1000) (h : ∀ rec, itB B rec k x = r) : loopN B fuel64 x = r := by
  obtain ⟨m, hm⟩ := fuel_add k (by omega)
  rw [hm]
  have : ∀ n, loopN B (m + n) = itB B (loopN B m) n := by
    intro n
    induction n with
    | zero => rfl
    | succ n ih => funext y; show B (loopN B (m + n)) y = _; rw [ih]; rfl
  rw [this]
  exact h _
theorem split_nil (K : List ((Int) × (List (Int)) × Unit) → Int → Option R) : p_sect_Split [] K = K [] 1 := by
  show loopN _ fuel64 _ = _
  exact loop_one fun rec => rfl
theorem split_head (K : List ((Int) × (List (Int)) × Unit) → Int → Option R) : p_sect_Split [0, 97, 115, 109, 1, 0, 0, 0] K = K [] 0 := by
  show loopN _ fuel64 _ = _
  refine loop_it 9 (by omega) fun rec => ?_
  show loopN _ fuel64 _ = _
  exact loop_one fun rec => rfl
end
end Go.Trm.G1
