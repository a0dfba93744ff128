import Derived.Test.YthidebepdpkgkaaTrmLeb2
set_option linter.unusedVariables false
set_option linter.unusedSimpArgs false
namespace Go.Trm.G1

/-- the sum of the bits from the i-th on; none: one too high is set -/
def usum : Nat → List Bool → Option Int
  | _, [] => some 0
  | i, b :: r => if b = true then (if 32 ≤ i then none else match usum (i + 1) r with
      | some s => some (2 ^ i + s)
      | none => none) else usum (i + 1) r

theorem p2 (i : Nat) : (0 : Int) < 2 ^ i := by
  rw [show ((2 : Int) ^ i) = ((2 ^ i : Nat) : Int) from (Int.natCast_pow 2 i).symm]
  have := Nat.two_pow_pos i
  omega
theorem p2_le {i j : Nat} (h : i ≤ j) : (2 : Int) ^ i ≤ 2 ^ j := by
  rw [show ((2 : Int) ^ i) = ((2 ^ i : Nat) : Int) from (Int.natCast_pow 2 i).symm, show ((2 : Int) ^ j) = ((2 ^ j : Nat) : Int) from (Int.natCast_pow 2 j).symm]
  have := Nat.pow_le_pow_right (show 0 < 2 by omega) h
  exact Int.ofNat_le.2 this
theorem p2_succ (i : Nat) : (2 : Int) ^ (i + 1) = 2 * 2 ^ i := by rw [Int.pow_succ]; omega

theorem l35 {R : Type} (kr : Int → Int → Int → Option R) (ke : Int → Int → Option R) (L : List Bool) (sz : Int) (hL : L.length ≤ 35) : ∀ (n i : Nat) (acc : Int), i ≤ L.length → 0 ≤ acc ∧ acc < 2 ^ i → L.length - i < n →
    loopN (B35_6 kr ke) n ⟨32, L, sz, acc, i⟩ = match usum i (L.drop i) with
      | some s => ke sz (acc + s)
      | none => kr 0 0 2 := by
  intro n
  induction n with
  | zero => intro i acc _ _ h; omega
  | succ n ih =>
    intro i acc hi hacc hn
    rw [loop_succ]
    generalize loopN (B35_6 kr ke) n = rec at ih ⊢
    unfold B35_6
    simp only [cond_dec, cond_inB, cond_not]
    by_cases h : i = L.length
    · rw [if_neg (by omega), List.drop_eq_nil_of_le (by omega)]
      show ke sz acc = ke sz (acc + 0)
      rw [Int.add_zero]
    · have hia : i < L.length := by omega
      have e : ((i : Int)).toNat = i := Int.toNat_natCast i
      have hg : L.getD i false = L[i] := by simp [List.getD, hia]
      rw [if_pos (by omega), if_pos (by omega), e, hg, List.drop_eq_getElem_cons hia, w_i64 (n := (i : Int) + 1) (by omega), show ((i : Int) + 1) = ((i + 1 : Nat) : Int) by omega]
      have hsucc := p2_succ i
      have hpos := p2 i
      cases hb : L[i] with
      | false =>
        simp only [cond_false, usum, Bool.false_eq_true, if_false]
        exact ih (i + 1) acc (by omega) (by omega) (by omega)
      | true =>
        simp only [cond_true, usum, if_true]
        by_cases h32 : 32 ≤ i
        · rw [if_pos (by omega), if_pos h32]
        · rw [if_neg (by omega), if_neg h32, w_u64 (n := (i : Int)) (by omega), if_pos (by omega)]
          have hle := p2_le (show i ≤ 31 by omega)
          have h31 : (2 : Int) ^ 31 = 2147483648 := by decide
          have hs : shlI .u64 1 (i : Int) = 2 ^ i := by
            unfold shlI
            have : min ((i : Int)).toNat IntKind.u64.bits = i := by rw [Int.toNat_natCast]; show min i 64 = i; omega
            rw [this, Int.one_mul]
            exact w_u64 (by omega)
          rw [hs, w_u64 (n := acc + 2 ^ i) (by omega), ih (i + 1) (acc + 2 ^ i) (by omega) (by omega) (by omega)]
          cases usum (i + 1) (L.drop (i + 1)) with
          | none => rfl
          | some s =>
            show ke sz (acc + 2 ^ i + s) = ke sz (acc + (2 ^ i + s))
            rw [Int.add_assoc]

def bv (b : Bool) : Int := if b = true then 1 else 0
theorem usum_low {i : Nat} (b : Bool) (r : List Bool) (h : i < 32) : usum i (b :: r) = (usum (i + 1) r).map fun s => 2 ^ i * bv b + s := by
  simp only [usum]
  cases b with
  | false => cases usum (i + 1) r <;> simp [bv]
  | true =>
    rw [if_pos rfl, if_neg (by omega)]
    cases usum (i + 1) r <;> simp [bv]
theorem usum_high {i : Nat} (b : Bool) (r : List Bool) (h : 32 ≤ i) : usum i (b :: r) = if b = true then none else usum (i + 1) r := by
  simp only [usum]
  rw [if_pos h]
theorem bv_bit (x : Int) (j : Nat) : bv (bit x j) = x / 2 ^ j % 2 := by
  unfold bv bit
  have : x / 2 ^ j % 2 = 0 ∨ x / 2 ^ j % 2 = 1 := by omega
  rcases this with h | h <;> rw [h] <;> rfl

theorem map_map {o : Option Int} (a b : Int) : (o.map fun s => b + s).map (fun s => a + s) = o.map fun s => (a + b) + s := by
  cases o <;> simp [Int.add_assoc]

theorem usum_byte (i : Nat) (hi : i ≤ 3) (x : Int) (hx : 0 ≤ x ∧ x ≤ 255) (r : List Bool) : usum (7 * i) (bitsOf x ++ r) = (usum (7 * (i + 1)) r).map fun s => 2 ^ (7 * i) * (x % 128) + s := by
  show usum (7 * i) (bit x 0 :: bit x 1 :: bit x 2 :: bit x 3 :: bit x 4 :: bit x 5 :: bit x 6 :: r) = _
  rw [usum_low _ _ (by omega), usum_low _ _ (by omega), usum_low _ _ (by omega), usum_low _ _ (by omega), usum_low _ _ (by omega), usum_low _ _ (by omega), usum_low _ _ (by omega)]
  simp only [map_map, p2_succ]
  rw [show 7 * i + 1 + 1 + 1 + 1 + 1 + 1 + 1 = 7 * (i + 1) by omega]
  congr 1
  funext s
  congr 1
  have e1 : x % 128 = bv (bit x 0) + 2 * bv (bit x 1) + 4 * bv (bit x 2) + 8 * bv (bit x 3) + 16 * bv (bit x 4) + 32 * bv (bit x 5) + 64 * bv (bit x 6) := by
    simp only [bv_bit, Int.pow_zero, show ((2 : Int) ^ 1) = 2 from rfl, show ((2 : Int) ^ 2) = 4 from rfl, show ((2 : Int) ^ 3) = 8 from rfl, show ((2 : Int) ^ 4) = 16 from rfl, show ((2 : Int) ^ 5) = 32 from rfl, show ((2 : Int) ^ 6) = 64 from rfl]
    omega
  rw [e1]
  generalize bv (bit x 0) = b0
  generalize bv (bit x 1) = b1
  generalize bv (bit x 2) = b2
  generalize bv (bit x 3) = b3
  generalize bv (bit x 4) = b4
  generalize bv (bit x 5) = b5
  generalize bv (bit x 6) = b6
  rcases pw i (by omega) with ⟨_, h, _⟩ | ⟨_, h, _⟩ | ⟨_, h, _⟩ | ⟨_, h, _⟩ | ⟨_, h, _⟩ <;> rw [h] <;> omega

theorem usum_last (x : Int) (hx : 0 ≤ x ∧ x ≤ 255) : usum 28 (bitsOf x) = if 16 ≤ x % 128 then none else some (2 ^ 28 * (x % 128)) := by
  show usum 28 [bit x 0, bit x 1, bit x 2, bit x 3, bit x 4, bit x 5, bit x 6] = _
  rw [usum_low _ _ (by omega), usum_low _ _ (by omega), usum_low _ _ (by omega), usum_low _ _ (by omega), usum_high _ _ (by omega), usum_high _ _ (by omega), usum_high _ _ (by omega)]
  simp only [map_map, bv_bit]
  have hb : ∀ j, (bit x j = true) = (x / 2 ^ j % 2 = 1) := fun j => by simp [bit]
  simp only [hb, Int.pow_zero, show ((2 : Int) ^ 1) = 2 from rfl, show ((2 : Int) ^ 2) = 4 from rfl, show ((2 : Int) ^ 3) = 8 from rfl, show ((2 : Int) ^ 4) = 16 from rfl, show ((2 : Int) ^ 5) = 32 from rfl, show ((2 : Int) ^ 6) = 64 from rfl,
    show ((2 : Int) ^ 28) = 268435456 from rfl, show ((2 : Int) ^ (28 + 1)) = 536870912 from rfl, show ((2 : Int) ^ (28 + 1 + 1)) = 1073741824 from rfl, show ((2 : Int) ^ (28 + 1 + 1 + 1)) = 2147483648 from rfl]
  by_cases h4 : x / 16 % 2 = 1
  · rw [if_pos h4, if_pos (by omega)]; rfl
  · rw [if_neg h4]
    by_cases h5 : x / 32 % 2 = 1
    · rw [if_pos h5, if_pos (by omega)]; rfl
    · rw [if_neg h5]
      by_cases h6 : x / 64 % 2 = 1
      · rw [if_pos h6, if_pos (by omega)]; rfl
      · rw [if_neg h6, if_neg (by omega)]
        simp only [usum, Option.map_some, Option.some.injEq]
        omega

theorem raw_bits : ∀ (m i : Nat) (l : List Int), m + i = 5 → bytes l → (match raw m l with
    | .short => rawB m l = .short
    | .form => rawB m l = .form
    | .ok v last k => ∃ L, rawB m l = .ok L k ∧ L.length = 7 * k ∧ usum (7 * i) L = if k + i = 5 ∧ 16 ≤ last then none else some (2 ^ (7 * i) * v)) := by
  intro m
  induction m with
  | zero => intro i l _ _; rfl
  | succ m ih =>
    intro i l hmi hb
    cases l with
    | nil => rfl
    | cons x r =>
      have hx := bytes_head hb
      by_cases h1 : x < 128
      · simp only [raw, if_pos h1, rawB]
        refine ⟨_, rfl, rfl, ?_⟩
        by_cases h4 : i = 4
        · subst h4
          rw [usum_last x hx, show x % 128 = x by omega]
          by_cases hq : 16 ≤ x
          · rw [if_pos hq, if_pos (by omega)]
          · rw [if_neg hq, if_neg (by omega)]
        · have := usum_byte i (by omega) x hx []
          rw [List.append_nil] at this
          rw [this, if_neg (by omega), show x % 128 = x by omega]
          simp [usum]
      · have h := ih (i + 1) r (by omega) (bytes_tail hb)
        simp only [raw, if_neg h1, rawB]
        cases hr : raw m r with
        | short => rw [hr] at h; simp only at h ⊢; rw [h]
        | form => rw [hr] at h; simp only at h ⊢; rw [h]
        | ok v last k =>
          rw [hr] at h
          obtain ⟨L, e1, e2, e3⟩ := h
          simp only [e1]
          obtain ⟨k1, k2, _, k4, _, _⟩ := raw_ok (bytes_tail hb) hr
          refine ⟨_, rfl, by rw [List.length_append, e2]; simp [bitsOf]; omega, ?_⟩
          rw [usum_byte i (by omega) x hx, e3]
          by_cases hq : k + (i + 1) = 5 ∧ 16 ≤ last
          · rw [if_pos hq, if_pos (by omega)]; rfl
          · rw [if_neg hq, if_neg (by omega)]
            show some _ = some _
            congr 1
            rw [show 7 * (i + 1) = 7 * i + 7 by omega, Int.pow_add, Int.mul_add, show ((2 : Int) ^ 7) = 128 from rfl, Int.mul_assoc]

theorem p35_eq {R : Type} (a : List Int) (K : Int → Int → Int → Option R) (ha : bytes a) (hl : a.length ≤ 4611686018427387904) : p35 a 32 K = K (u32 a).1 (u32 a).2.1 (u32 a).2.2 := by
  unfold p35 p42 fuel42_5
  simp only [cond_dec]
  rw [if_neg (by omega), if_neg (by omega)]
  refine (l42 (R := R) _ _ a ha hl fuel64 0 [] (by omega) rfl (lt_fuel (by omega))).trans ?_
  have h := raw_bits 5 0 a rfl ha
  rw [List.drop_zero, Nat.sub_zero]
  unfold u32
  cases hr : raw 5 a with
  | short => rw [hr] at h; simp only at h ⊢; rw [h]; rfl
  | form => rw [hr] at h; simp only at h ⊢; rw [h]; rfl
  | ok v last k =>
    rw [hr] at h
    obtain ⟨L, e1, e2, e3⟩ := h
    obtain ⟨k1, k2, _, k4, _, _⟩ := raw_ok ha hr
    rw [e1]
    simp only [endRawB, List.nil_append, cond_ne, if_true, Nat.zero_add]
    unfold fuel35_6
    refine (l35 (R := R) _ _ L _ (by omega) fuel64 0 0 (by omega) (by omega) (lt_fuel (by omega))).trans ?_
    rw [List.drop_zero]
    simp only [Nat.mul_zero, Nat.add_zero, Int.pow_zero, Int.one_mul] at e3
    rw [e3]
    split
    · rename_i s hs
      split at hs
      · cases hs
      · rename_i hq
        cases hs
        rw [if_neg hq, Int.zero_add]
    · rename_i hs
      split at hs
      · rename_i hq
        rw [if_pos hq]
      · cases hs

end Go.Trm.G1
