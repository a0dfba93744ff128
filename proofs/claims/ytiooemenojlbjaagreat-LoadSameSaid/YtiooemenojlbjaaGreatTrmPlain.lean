import Derived.Test.YtiooemenojlbjaaGreatTrmLoop
import Derived.IntWalk
set_option linter.unusedVariables false
set_option linter.unusedSimpArgs false
namespace Go.Trm

/-! Laws for plain texts. -/

theorem loop_succ {X R : Type} (B : (X → Option R) → X → Option R) (n : Nat) (x : X) : loopN B (n + 1) x = B (loopN B n) x := rfl
/-- so many rounds are there -/
theorem fuel_add (k : Nat) (h : k ≤ 18446744073709551616) : ∃ m, fuel64 = m + k := ⟨fuel64 - k, by have := fuel64_eq; omega⟩
theorem lt_fuel {k : Nat} (h : k < 18446744073709551616) : k < fuel64 := by rw [fuel64_eq]; exact h

section
variable {α : Type}
theorem cond_dec {p : Prop} [Decidable p] {a b : α} : cond (decide p) a b = if p then a else b := by by_cases h : p <;> simp [h]
theorem cond_not {b : Bool} {x y : α} : cond (!b) x y = cond b y x := by cases b <;> rfl
theorem cond_eq {β : Type} [BEq β] [LawfulBEq β] [DecidableEq β] {u v : β} {a b : α} : cond (u == v) a b = if u = v then a else b := by
  by_cases h : u = v
  · subst h; simp
  · have : (u == v) = false := by simpa using h
    rw [this, if_neg h]; rfl
theorem cond_ne {β : Type} [BEq β] [LawfulBEq β] [DecidableEq β] {u v : β} {a b : α} : cond (u != v) a b = if u = v then b else a := by
  by_cases h : u = v
  · subst h; simp
  · have : (u != v) = true := by simpa using h
    rw [this, if_neg h]; rfl
theorem cond_inB {i : Int} {n : Nat} {a b : α} : cond (inB i n) a b = if 0 ≤ i ∧ i < n then a else b := by
  unfold inB; by_cases h0 : 0 ≤ i <;> by_cases h1 : i < n <;> simp [h0, h1]
theorem cond_inR {l h : Int} {n : Nat} {a b : α} : cond (inR l h n) a b = if 0 ≤ l ∧ l ≤ h ∧ h ≤ n then a else b := by
  unfold inR; by_cases h0 : 0 ≤ l <;> by_cases h1 : l ≤ h <;> by_cases h2 : h ≤ n <;> simp [h0, h1, h2]
theorem cond_if {b : Bool} {x y : α} : cond b x y = if b = true then x else y := by cases b <;> rfl
end

theorem w_i64 {n : Int} (h : -9223372036854775808 ≤ n ∧ n ≤ 9223372036854775807) : IntKind.i64.wrap n = n := IntWalk.i64_in n h
theorem w_u8 {n : Int} (h : 0 ≤ n ∧ n ≤ 255) : IntKind.u8.wrap n = n := by
  have : IntKind.u8.wrap n = n % 256 := rfl
  omega
theorem w_u64 {n : Int} (h : 0 ≤ n ∧ n ≤ 18446744073709551615) : IntKind.u64.wrap n = n := by
  have : IntKind.u64.wrap n = n % 18446744073709551616 := rfl
  omega
theorem w_u32 {n : Int} (h : 0 ≤ n ∧ n ≤ 4294967295) : IntKind.u32.wrap n = n := by
  have : IntKind.u32.wrap n = n % 4294967296 := rfl
  omega

theorem nums_len (l : List UInt8) : (nums l).length = l.length := by simp [nums]
theorem bt_nums (l : List UInt8) (i : Int) : bt l i = (nums l).getD i.toNat 0 := by
  simp only [bt, nums, List.getD_eq_getElem?_getD, List.getElem?_map]
  cases l[i.toNat]? <;> rfl
theorem nums_get (l : List UInt8) (i : Nat) : 0 ≤ (nums l).getD i 0 ∧ (nums l).getD i 0 ≤ 255 := by
  simp only [nums, List.getD_eq_getElem?_getD, List.getElem?_map]
  cases h : l[i]? with
  | none => simp
  | some b =>
    have := b.toNat_lt
    simp only [Option.map_some, Option.getD_some]
    omega
theorem nums_u8 (l : List UInt8) : ∀ n ∈ nums l, IntKind.u8.has n := by
  intro n hn
  obtain ⟨b, _, rfl⟩ := List.mem_map.1 hn
  have := b.toNat_lt
  show (0 : Int) ≤ _ ∧ _ ≤ (255 : Int)
  omega
theorem u8s_nums (l : List UInt8) : u8s (nums l) = l := by
  simp only [u8s, nums, List.map_map]
  conv => rhs; rw [← List.map_id l]
  apply List.map_congr_left
  intro b _
  simp
theorem nums_u8s {l : List Int} (h : ∀ n ∈ l, IntKind.u8.has n) : nums (u8s l) = l := by
  simp only [u8s, nums, List.map_map]
  conv => rhs; rw [← List.map_id l]
  apply List.map_congr_left
  intro n hn
  obtain ⟨h0, h1⟩ := h n hn
  have h0 : (0 : Int) ≤ n := h0
  have h1 : n ≤ 255 := h1
  simp only [Function.comp, id]
  rw [UInt8.toNat_ofNat']
  omega
theorem drop_getD (l : List Int) (i j : Nat) : (l.drop i).getD j 0 = l.getD (i + j) 0 := by
  simp [List.getD_eq_getElem?_getD, List.getElem?_drop]

end Go.Trm
