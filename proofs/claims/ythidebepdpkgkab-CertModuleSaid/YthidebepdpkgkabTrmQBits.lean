import Derived.Test.YthidebepdpkgkabTrmQNum
import Derived.KernelRfl
set_option linter.unusedVariables false
set_option linter.unusedSimpArgs false
namespace Go.Trm.G1

/-! the document's: bit by bit -/

theorem p46_64 {R : Type} (K : Int → Option R) : p_ref01_most 64 K = K 10 := by
  unfold p_ref01_most fuel_ref01_most_2
  obtain ⟨m, hm⟩ := fuel_add 12 (by omega)
  rw [hm]
  kernel_rfl

def bit (x : Int) (j : Nat) : Bool := x / 2 ^ j % 2 == 1
def bitsOf (x : Int) : List Bool := [bit x 0, bit x 1, bit x 2, bit x 3, bit x 4, bit x 5, bit x 6]

inductive RawB where
  | short
  | form
  | ok (l : List Bool) (k : Nat)
def rawB : Nat → List Int → RawB
  | 0, _ => .form
  | _ + 1, [] => .short
  | m + 1, x :: r => if x < 128 then .ok (bitsOf x) 1 else match rawB m r with
    | .ok l k => .ok (bitsOf x ++ l) (k + 1)
    | e => e

section
variable {R : Type} (kx : List Int → Int → List Bool → Int → Option R) (a : List Int) (b : Int)
theorem jb0 (n : Nat) (out : List Bool) (i j : Int) (h : 7 ≤ j) : loopN (B_ref01_Read_10 kx) (n + 1) ⟨a, b, out, i, j⟩ = kx a b out i := by
  rw [loop_succ]
  unfold B_ref01_Read_10
  simp only [cond_dec]
  rw [if_neg (by omega)]
theorem jb1 (n : Nat) (out : List Bool) (i j : Nat) (h : j ≤ 6) (hi : i < a.length) (hx : 0 ≤ a.getD i 0 ∧ a.getD i 0 ≤ 255) (ho : out.length ≤ 1000) : loopN (B_ref01_Read_10 kx) (n + 1) ⟨a, b, out, i, j⟩ = loopN (B_ref01_Read_10 kx) n ⟨a, b, out ++ [bit (a.getD i 0) j], i, ((j + 1 : Nat) : Int)⟩ := by
  rw [loop_succ]
  unfold B_ref01_Read_10
  simp only [cond_dec, cond_inB, cond_ne]
  have e : ((i : Int)).toNat = i := Int.toNat_natCast i
  rw [if_pos (by omega), if_pos (by omega), e, w_u64 (by omega), if_pos (by omega), if_neg (by omega), w_i64 (by omega)]
  have hs : shrI .u8 (a.getD i 0) (j : Int) = a.getD i 0 / 2 ^ j := by
    unfold shrI
    have : min ((j : Int)).toNat IntKind.u8.bits = j := by rw [Int.toNat_natCast]; show min j 8 = j; omega
    rw [this]
    exact Int.fdiv_eq_ediv_of_nonneg _ (by
      rw [show ((2 : Int) ^ j) = ((2 ^ j : Nat) : Int) from (Int.natCast_pow 2 j).symm]
      exact Int.natCast_nonneg _)
  have hp : (0 : Int) ≤ a.getD i 0 / 2 ^ j := Int.ediv_nonneg hx.1 (by
      rw [show ((2 : Int) ^ j) = ((2 ^ j : Nat) : Int) from (Int.natCast_pow 2 j).symm]
      exact Int.natCast_nonneg _)
  rw [hs, Int.tmod_eq_emod_of_nonneg hp, if_pos (by unfold most; simp; omega)]
  rfl
end

def endRawB {R : Type} (kr : List Bool → Int → Int → Option R) (ke : Option R) (out : List Bool) (i : Nat) : RawB → Option R
  | .short => kr [] 0 1
  | .form => ke
  | .ok l k => kr (out ++ l) ((i + k : Nat) : Int) 0

theorem l42 {R : Type} (kr : List Bool → Int → Int → Option R) (ke : Option R) (a : List Int) (ha : bytes a) (hl : a.length ≤ 4611686018427387904) : ∀ (n i : Nat) (out : List Bool), i ≤ 10 → out.length = 7 * i → 10 - i < n →
    loopN (B_ref01_Read_5 kr ke) n ⟨a, 64, out, i⟩ = endRawB kr ke out i (rawB (10 - i) (a.drop i)) := by
  intro n
  induction n with
  | zero => intro i out _ _ h; omega
  | succ n ih =>
    intro i out hi ho hn
    rw [loop_succ]
    generalize loopN (B_ref01_Read_5 kr ke) n = rec at ih ⊢
    unfold B_ref01_Read_5
    simp only [cond_dec, cond_inB, p46_64]
    by_cases h5 : i = 10
    · subst h5
      rw [if_neg (by omega)]
      rfl
    · rw [if_pos (by omega)]
      obtain ⟨m, hm⟩ : ∃ m, 10 - i = m + 1 := ⟨9 - i, by omega⟩
      rw [hm]
      by_cases h : a.length ≤ i
      · rw [if_pos (by omega), List.drop_eq_nil_of_le (by omega)]; rfl
      · have hia' : i < a.length := by omega
        have hx := ha i
        have hg : a[i] = a.getD i 0 := by simp [List.getD, hia']
        rw [if_neg (by omega), List.drop_eq_getElem_cons hia', hg]
        unfold fuel_ref01_Read_10
        obtain ⟨q, hq⟩ := fuel_add 8 (by omega)
        rw [hq, show (0 : Int) = ((0 : Nat) : Int) from rfl]
        rw [jb1 (h := by omega) (hi := hia') (hx := hx) (ho := by omega), jb1 (h := by omega) (hi := hia') (hx := hx) (ho := by simp; omega), jb1 (h := by omega) (hi := hia') (hx := hx) (ho := by simp; omega), jb1 (h := by omega) (hi := hia') (hx := hx) (ho := by simp; omega),
          jb1 (h := by omega) (hi := hia') (hx := hx) (ho := by simp; omega), jb1 (h := by omega) (hi := hia') (hx := hx) (ho := by simp; omega), jb1 (h := by omega) (hi := hia') (hx := hx) (ho := by simp; omega), jb0 (h := by omega)]
        have e : ((i : Int)).toNat = i := Int.toNat_natCast i
        have hbits : out ++ [bit (a.getD i 0) 0] ++ [bit (a.getD i 0) (0 + 1)] ++ [bit (a.getD i 0) (0 + 1 + 1)] ++ [bit (a.getD i 0) (0 + 1 + 1 + 1)] ++ [bit (a.getD i 0) (0 + 1 + 1 + 1 + 1)] ++ [bit (a.getD i 0) (0 + 1 + 1 + 1 + 1 + 1)] ++ [bit (a.getD i 0) (0 + 1 + 1 + 1 + 1 + 1 + 1)] = out ++ bitsOf (a.getD i 0) := by
          simp [bitsOf, List.append_assoc]
        rw [hbits, if_pos (by omega), e, w_i64 (by omega)]
        generalize a.getD i 0 = x at hx ⊢
        by_cases h1 : x < 128
        · rw [if_pos h1]
          simp only [rawB, if_pos h1, endRawB]
          rfl
        · rw [if_neg h1]
          simp only [rawB, if_neg h1]
          have := ih (i + 1) (out ++ bitsOf x) (by omega) (by simp [bitsOf, ho]; omega) (by omega)
          rw [show ((i : Int) + 1) = ((i + 1 : Nat) : Int) by omega, this, show 10 - (i + 1) = m by omega]
          cases rawB m (a.drop (i + 1)) with
          | short => rfl
          | form => rfl
          | ok l k =>
            simp only [endRawB, List.append_assoc]
            congr 1
            omega



/-- the sum of the bits from the i-th on; none: one too high is set -/
def usum : Nat → List Bool → Option Int
  | _, [] => some 0
  | i, b :: r => if b = true then (if 64 ≤ i then none else match usum (i + 1) r with
      | some s => some (2 ^ i + s)
      | none => none) else usum (i + 1) r

theorem p2 (i : Nat) : (0 : Int) < 2 ^ i := by
  rw [show ((2 : Int) ^ i) = ((2 ^ i : Nat) : Int) from (Int.natCast_pow 2 i).symm]
  have := Nat.two_pow_pos i
  omega
theorem p2_le {i j : Nat} (h : i ≤ j) : (2 : Int) ^ i ≤ 2 ^ j := by
  rw [show ((2 : Int) ^ i) = ((2 ^ i : Nat) : Int) from (Int.natCast_pow 2 i).symm, show ((2 : Int) ^ j) = ((2 ^ j : Nat) : Int) from (Int.natCast_pow 2 j).symm]
  have := Nat.pow_le_pow_right (show 0 < 2 by omega) h
  exact Int.ofNat_le.2 this
theorem p2_succ (i : Nat) : (2 : Int) ^ (i + 1) = 2 * 2 ^ i := by rw [Int.pow_succ]; omega

theorem l35 {R : Type} (kr : Int → Int → Int → Option R) (ke : Int → Int → Option R) (L : List Bool) (sz : Int) (hL : L.length ≤ 70) : ∀ (n i : Nat) (acc : Int), i ≤ L.length → 0 ≤ acc ∧ acc < 2 ^ i → L.length - i < n →
    loopN (B_ref01_U_6 kr ke) n ⟨64, L, sz, acc, i⟩ = match usum i (L.drop i) with
      | some s => ke sz (acc + s)
      | none => kr 0 0 2 := by
  intro n
  induction n with
  | zero => intro i acc _ _ h; omega
  | succ n ih =>
    intro i acc hi hacc hn
    rw [loop_succ]
    generalize loopN (B_ref01_U_6 kr ke) n = rec at ih ⊢
    unfold B_ref01_U_6
    simp only [cond_dec, cond_inB, cond_not]
    by_cases h : i = L.length
    · rw [if_neg (by omega), List.drop_eq_nil_of_le (by omega)]
      show ke sz acc = ke sz (acc + 0)
      rw [Int.add_zero]
    · have hia : i < L.length := by omega
      have e : ((i : Int)).toNat = i := Int.toNat_natCast i
      have hg : L.getD i false = L[i] := by simp [List.getD, hia]
      rw [if_pos (by omega), if_pos (by omega), e, hg, List.drop_eq_getElem_cons hia, w_i64 (n := (i : Int) + 1) (by omega), show ((i : Int) + 1) = ((i + 1 : Nat) : Int) by omega]
      have hsucc := p2_succ i
      have hpos := p2 i
      cases hb : L[i] with
      | false =>
        simp only [cond_false, usum, Bool.false_eq_true, if_false]
        exact ih (i + 1) acc (by omega) (by omega) (by omega)
      | true =>
        simp only [cond_true, usum, if_true]
        by_cases h32 : 64 ≤ i
        · rw [if_pos (by omega), if_pos h32]
        · rw [if_neg (by omega), if_neg h32, w_u64 (n := (i : Int)) (by omega), if_pos (by omega)]
          have hle := p2_le (show i ≤ 63 by omega)
          have h31 : (2 : Int) ^ 63 = 9223372036854775808 := by decide
          have hs : shlI .u64 1 (i : Int) = 2 ^ i := by
            unfold shlI
            have : min ((i : Int)).toNat IntKind.u64.bits = i := by rw [Int.toNat_natCast]; show min i 64 = i; omega
            rw [this, Int.one_mul]
            exact w_u64 (by omega)
          rw [hs, w_u64 (n := acc + 2 ^ i) (by omega), ih (i + 1) (acc + 2 ^ i) (by omega) (by omega) (by omega)]
          cases usum (i + 1) (L.drop (i + 1)) with
          | none => rfl
          | some s =>
            show ke sz (acc + 2 ^ i + s) = ke sz (acc + (2 ^ i + s))
            rw [Int.add_assoc]

def bv (b : Bool) : Int := if b = true then 1 else 0
theorem usum_low {i : Nat} (b : Bool) (r : List Bool) (h : i < 64) : usum i (b :: r) = (usum (i + 1) r).map fun s => 2 ^ i * bv b + s := by
  simp only [usum]
  cases b with
  | false => cases usum (i + 1) r <;> simp [bv]
  | true =>
    rw [if_pos rfl, if_neg (by omega)]
    cases usum (i + 1) r <;> simp [bv]
theorem usum_high {i : Nat} (b : Bool) (r : List Bool) (h : 64 ≤ i) : usum i (b :: r) = if b = true then none else usum (i + 1) r := by
  simp only [usum]
  rw [if_pos h]
theorem bv_bit (x : Int) (j : Nat) : bv (bit x j) = x / 2 ^ j % 2 := by
  unfold bv bit
  have : x / 2 ^ j % 2 = 0 ∨ x / 2 ^ j % 2 = 1 := by omega
  rcases this with h | h <;> rw [h] <;> rfl

theorem map_map {o : Option Int} (a b : Int) : (o.map fun s => b + s).map (fun s => a + s) = o.map fun s => (a + b) + s := by
  cases o <;> simp [Int.add_assoc]

theorem usum_byte (i : Nat) (hi : i ≤ 8) (x : Int) (hx : 0 ≤ x ∧ x ≤ 255) (r : List Bool) : usum (7 * i) (bitsOf x ++ r) = (usum (7 * (i + 1)) r).map fun s => 2 ^ (7 * i) * (x % 128) + s := by
  show usum (7 * i) (bit x 0 :: bit x 1 :: bit x 2 :: bit x 3 :: bit x 4 :: bit x 5 :: bit x 6 :: r) = _
  rw [usum_low _ _ (by omega), usum_low _ _ (by omega), usum_low _ _ (by omega), usum_low _ _ (by omega), usum_low _ _ (by omega), usum_low _ _ (by omega), usum_low _ _ (by omega)]
  simp only [map_map, p2_succ]
  rw [show 7 * i + 1 + 1 + 1 + 1 + 1 + 1 + 1 = 7 * (i + 1) by omega]
  congr 1
  funext s
  congr 1
  have e1 : x % 128 = bv (bit x 0) + 2 * bv (bit x 1) + 4 * bv (bit x 2) + 8 * bv (bit x 3) + 16 * bv (bit x 4) + 32 * bv (bit x 5) + 64 * bv (bit x 6) := by
    simp only [bv_bit, Int.pow_zero, show ((2 : Int) ^ 1) = 2 from rfl, show ((2 : Int) ^ 2) = 4 from rfl, show ((2 : Int) ^ 3) = 8 from rfl, show ((2 : Int) ^ 4) = 16 from rfl, show ((2 : Int) ^ 5) = 32 from rfl, show ((2 : Int) ^ 6) = 64 from rfl]
    omega
  rw [e1]
  generalize bv (bit x 0) = b0
  generalize bv (bit x 1) = b1
  generalize bv (bit x 2) = b2
  generalize bv (bit x 3) = b3
  generalize bv (bit x 4) = b4
  generalize bv (bit x 5) = b5
  generalize bv (bit x 6) = b6
  generalize hs : s = z
  rcases (by omega : i = 0 ∨ i = 1 ∨ i = 2 ∨ i = 3 ∨ i = 4 ∨ i = 5 ∨ i = 6 ∨ i = 7 ∨ i = 8) with rfl | rfl | rfl | rfl | rfl | rfl | rfl | rfl | rfl
  · rw [show (2 : Int) ^ (7 * 0) = 1 by decide]; omega
  · rw [show (2 : Int) ^ (7 * 1) = 128 by decide]; omega
  · rw [show (2 : Int) ^ (7 * 2) = 16384 by decide]; omega
  · rw [show (2 : Int) ^ (7 * 3) = 2097152 by decide]; omega
  · rw [show (2 : Int) ^ (7 * 4) = 268435456 by decide]; omega
  · rw [show (2 : Int) ^ (7 * 5) = 34359738368 by decide]; omega
  · rw [show (2 : Int) ^ (7 * 6) = 4398046511104 by decide]; omega
  · rw [show (2 : Int) ^ (7 * 7) = 562949953421312 by decide]; omega
  · rw [show (2 : Int) ^ (7 * 8) = 72057594037927936 by decide]; omega

theorem usum_last (x : Int) (hx : 0 ≤ x ∧ x ≤ 255) : usum 63 (bitsOf x) = if 2 ≤ x % 128 then none else some (2 ^ 63 * (x % 128)) := by
  show usum 63 [bit x 0, bit x 1, bit x 2, bit x 3, bit x 4, bit x 5, bit x 6] = _
  rw [usum_low _ _ (by omega), usum_high _ _ (by omega), usum_high _ _ (by omega), usum_high _ _ (by omega), usum_high _ _ (by omega), usum_high _ _ (by omega), usum_high _ _ (by omega)]
  have hb : ∀ j, (bit x j = true) = (x / 2 ^ j % 2 = 1) := fun j => by simp [bit]
  simp only [bv_bit, hb, Int.pow_zero, show ((2 : Int) ^ 1) = 2 from rfl, show ((2 : Int) ^ 2) = 4 from rfl, show ((2 : Int) ^ 3) = 8 from rfl, show ((2 : Int) ^ 4) = 16 from rfl, show ((2 : Int) ^ 5) = 32 from rfl, show ((2 : Int) ^ 6) = 64 from rfl, show ((2 : Int) ^ 63) = 9223372036854775808 from by decide]
  by_cases h1 : x / 2 % 2 = 1
  · rw [if_pos h1, if_pos (by omega)]; rfl
  · rw [if_neg h1]
    by_cases h2 : x / 4 % 2 = 1
    · rw [if_pos h2, if_pos (by omega)]; rfl
    · rw [if_neg h2]
      by_cases h3 : x / 8 % 2 = 1
      · rw [if_pos h3, if_pos (by omega)]; rfl
      · rw [if_neg h3]
        by_cases h4 : x / 16 % 2 = 1
        · rw [if_pos h4, if_pos (by omega)]; rfl
        · rw [if_neg h4]
          by_cases h5 : x / 32 % 2 = 1
          · rw [if_pos h5, if_pos (by omega)]; rfl
          · rw [if_neg h5]
            by_cases h6 : x / 64 % 2 = 1
            · rw [if_pos h6, if_pos (by omega)]; rfl
            · rw [if_neg h6, if_neg (by omega)]
              simp only [usum, Option.map_some, Option.some.injEq]
              omega

theorem raw_bits : ∀ (m i : Nat) (l : List Int), m + i = 10 → bytes l → (match raw m l with
    | .short => rawB m l = .short
    | .form => rawB m l = .form
    | .ok v last k => ∃ L, rawB m l = .ok L k ∧ L.length = 7 * k ∧ usum (7 * i) L = if k + i = 10 ∧ 2 ≤ last then none else some (2 ^ (7 * i) * v)) := by
  intro m
  induction m with
  | zero => intro i l _ _; rfl
  | succ m ih =>
    intro i l hmi hb
    cases l with
    | nil => rfl
    | cons x r =>
      have hx := bytes_head hb
      by_cases h1 : x < 128
      · simp only [raw, if_pos h1, rawB]
        refine ⟨_, rfl, rfl, ?_⟩
        by_cases h4 : i = 9
        · subst h4
          rw [usum_last x hx, show x % 128 = x by omega]
          by_cases hq : 2 ≤ x
          · rw [if_pos hq, if_pos (by omega)]
          · rw [if_neg hq, if_neg (by omega)]
        · have := usum_byte i (by omega) x hx []
          rw [List.append_nil] at this
          rw [this, if_neg (by omega), show x % 128 = x by omega]
          simp [usum]
      · have h := ih (i + 1) r (by omega) (bytes_tail hb)
        simp only [raw, if_neg h1, rawB]
        cases hr : raw m r with
        | short => rw [hr] at h; simp only at h ⊢; rw [h]
        | form => rw [hr] at h; simp only at h ⊢; rw [h]
        | ok v last k =>
          rw [hr] at h
          obtain ⟨L, e1, e2, e3⟩ := h
          simp only [e1]
          obtain ⟨k1, k2, _, k4, _, _⟩ := raw_ok (bytes_tail hb) hr
          refine ⟨_, rfl, by rw [List.length_append, e2]; simp [bitsOf]; omega, ?_⟩
          rw [usum_byte i (by omega) x hx, e3]
          by_cases hq : k + (i + 1) = 10 ∧ 2 ≤ last
          · rw [if_pos hq, if_pos (by omega)]; rfl
          · rw [if_neg hq, if_neg (by omega)]
            show some _ = some _
            congr 1
            rw [show 7 * (i + 1) = 7 * i + 7 by omega, Int.pow_add, Int.mul_add, show ((2 : Int) ^ 7) = 128 from rfl, Int.mul_assoc]

theorem p35_64 {R : Type} (a : List Int) (K : Int → Int → Int → Option R) (ha : bytes a) (hl : a.length ≤ 4611686018427387904) : p_ref01_U a 64 K = K (u64S a).1 (u64S a).2.1 (u64S a).2.2 := by
  unfold p_ref01_U p_ref01_Read fuel_ref01_Read_5
  simp only [cond_dec]
  rw [if_neg (by omega), if_neg (by omega)]
  refine (l42 (R := R) _ _ a ha hl fuel64 0 [] (by omega) rfl (lt_fuel (by omega))).trans ?_
  have h := raw_bits 10 0 a rfl ha
  rw [List.drop_zero, Nat.sub_zero]
  unfold u64S
  cases hr : raw 10 a with
  | short => rw [hr] at h; simp only at h ⊢; rw [h]; rfl
  | form => rw [hr] at h; simp only at h ⊢; rw [h]; rfl
  | ok v last k =>
    rw [hr] at h
    obtain ⟨L, e1, e2, e3⟩ := h
    obtain ⟨k1, k2, _, k4, _, _⟩ := raw_ok ha hr
    rw [e1]
    simp only [endRawB, List.nil_append, cond_ne, if_true, Nat.zero_add]
    unfold fuel_ref01_U_6
    refine (l35 (R := R) _ _ L _ (by omega) fuel64 0 0 (by omega) (by omega) (lt_fuel (by omega))).trans ?_
    rw [List.drop_zero]
    simp only [Nat.mul_zero, Nat.add_zero, Int.pow_zero, Int.one_mul] at e3
    rw [e3]
    split
    · rename_i s hs
      split at hs
      · cases hs
      · rename_i hq
        cases hs
        rw [if_neg hq, Int.zero_add]
    · rename_i hs
      split at hs
      · rename_i hq
        rw [if_pos hq]
      · cases hs

end Go.Trm.G1
