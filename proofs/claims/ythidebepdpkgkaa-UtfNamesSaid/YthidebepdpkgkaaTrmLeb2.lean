import Derived.Test.YthidebepdpkgkaaTrmLeb
set_option linter.unusedVariables false
set_option linter.unusedSimpArgs false
namespace Go.Trm.G1

/-- what is read as a number of 32 bits: it, how many bytes, the error -/
def u32 (l : List Int) : Int × Int × Int := match raw 5 l with
  | .short => (0, 0, 1)
  | .form => (0, 0, 2)
  | .ok v last k => if k = 5 ∧ 16 ≤ last then (0, 0, 2) else (v, k, 0)

theorem raw_ok {m : Nat} : ∀ {l : List Int} {v last : Int} {k : Nat}, bytes l → raw m l = .ok v last k → 1 ≤ k ∧ k ≤ m ∧ k ≤ l.length ∧ 0 ≤ v ∧ 0 ≤ last ∧ last < 128 := by
  induction m with
  | zero => intro l v last k _ h; cases h
  | succ m ih =>
    intro l v last k hb h
    cases l with
    | nil => cases h
    | cons x r =>
      have hx := bytes_head hb
      simp only [raw] at h
      split at h
      · cases h
        simp
        omega
      · split at h
        · rename_i v' last' k' he
          cases h
          obtain ⟨h1, h2, h3, h4, h5, h6⟩ := ih (bytes_tail hb) he
          simp only [List.length_cons]
          omega
        · rename_i he
          exact absurd h (he _ _ _)

theorem p32_eq {R : Type} (a : List Int) (K : Int → Int → Int → Option R) (ha : bytes a) (hl : a.length ≤ 4611686018427387904) : p32 a 32 K = K (u32 a).1 (u32 a).2.1 (u32 a).2.2 := by
  unfold p32 p40 fuel40_5
  have h := fun kr ke => l40 (R := R) kr ke a ha hl fuel64 0 0 (by omega) (by omega) (by omega) (lt_fuel (by omega))
  simp only [cond_dec]
  rw [if_neg (by omega), if_neg (by omega)]
  refine (h _ _).trans ?_
  rw [List.drop_zero, Nat.sub_zero]
  unfold u32
  cases hr : raw 5 a with
  | short => rfl
  | form => rfl
  | ok v last k =>
    obtain ⟨h1, h2, h3, h4, h5, h6⟩ := raw_ok ha hr
    simp only [endRaw, cond_ne, if_true, Nat.zero_add, Nat.mul_zero, Int.pow_zero, Int.one_mul, Int.zero_add]
    rw [w_i64 (n := (k : Int) - 1) (by omega), w_i64 (n := 7 * ((k : Int) - 1)) (by omega), w_i64 (n := 32 - 7 * ((k : Int) - 1)) (by omega)]
    by_cases hk : k = 5
    · subst hk
      rw [if_pos (by omega), w_u64 (by omega), if_pos (by omega)]
      have hs : shrI .u8 last ((32 : Int) - 7 * (((5 : Nat) : Int) - 1)) = last / 16 := by
        show last.fdiv 16 = _
        exact Int.fdiv_eq_ediv_of_nonneg _ (by omega)
      rw [hs]
      by_cases hq : 16 ≤ last
      · rw [if_neg (by omega), if_pos ⟨rfl, hq⟩]
      · rw [if_pos (by omega), if_neg (by omega)]
    · rw [if_neg (by omega), if_neg (by omega)]

/-! the document's: bit by bit -/

theorem p46_32 {R : Type} (K : Int → Option R) : p46 32 K = K 5 := by
  unfold p46 fuel46_2
  obtain ⟨m, hm⟩ := fuel_add 6 (by omega)
  rw [hm]
  kernel_rfl

def bit (x : Int) (j : Nat) : Bool := x / 2 ^ j % 2 == 1
def bitsOf (x : Int) : List Bool := [bit x 0, bit x 1, bit x 2, bit x 3, bit x 4, bit x 5, bit x 6]

inductive RawB where
  | short
  | form
  | ok (l : List Bool) (k : Nat)
def rawB : Nat → List Int → RawB
  | 0, _ => .form
  | _ + 1, [] => .short
  | m + 1, x :: r => if x < 128 then .ok (bitsOf x) 1 else match rawB m r with
    | .ok l k => .ok (bitsOf x ++ l) (k + 1)
    | e => e

section
variable {R : Type} (kx : List Int → Int → List Bool → Int → Option R) (a : List Int) (b : Int)
theorem jb0 (n : Nat) (out : List Bool) (i j : Int) (h : 7 ≤ j) : loopN (B42_10 kx) (n + 1) ⟨a, b, out, i, j⟩ = kx a b out i := by
  rw [loop_succ]
  unfold B42_10
  simp only [cond_dec]
  rw [if_neg (by omega)]
theorem jb1 (n : Nat) (out : List Bool) (i j : Nat) (h : j ≤ 6) (hi : i < a.length) (hx : 0 ≤ a.getD i 0 ∧ a.getD i 0 ≤ 255) (ho : out.length ≤ 1000) : loopN (B42_10 kx) (n + 1) ⟨a, b, out, i, j⟩ = loopN (B42_10 kx) n ⟨a, b, out ++ [bit (a.getD i 0) j], i, ((j + 1 : Nat) : Int)⟩ := by
  rw [loop_succ]
  unfold B42_10
  simp only [cond_dec, cond_inB, cond_ne]
  have e : ((i : Int)).toNat = i := Int.toNat_natCast i
  rw [if_pos (by omega), if_pos (by omega), e, w_u64 (by omega), if_pos (by omega), if_neg (by omega), w_i64 (by omega)]
  have hs : shrI .u8 (a.getD i 0) (j : Int) = a.getD i 0 / 2 ^ j := by
    unfold shrI
    have : min ((j : Int)).toNat IntKind.u8.bits = j := by rw [Int.toNat_natCast]; show min j 8 = j; omega
    rw [this]
    exact Int.fdiv_eq_ediv_of_nonneg _ (by
      rw [show ((2 : Int) ^ j) = ((2 ^ j : Nat) : Int) from (Int.natCast_pow 2 j).symm]
      exact Int.natCast_nonneg _)
  have hp : (0 : Int) ≤ a.getD i 0 / 2 ^ j := Int.ediv_nonneg hx.1 (by
      rw [show ((2 : Int) ^ j) = ((2 ^ j : Nat) : Int) from (Int.natCast_pow 2 j).symm]
      exact Int.natCast_nonneg _)
  rw [hs, Int.tmod_eq_emod_of_nonneg hp, if_pos (by unfold most; simp; omega)]
  rfl
end

def endRawB {R : Type} (kr : List Bool → Int → Int → Option R) (ke : Option R) (out : List Bool) (i : Nat) : RawB → Option R
  | .short => kr [] 0 1
  | .form => ke
  | .ok l k => kr (out ++ l) ((i + k : Nat) : Int) 0

theorem l42 {R : Type} (kr : List Bool → Int → Int → Option R) (ke : Option R) (a : List Int) (ha : bytes a) (hl : a.length ≤ 4611686018427387904) : ∀ (n i : Nat) (out : List Bool), i ≤ 5 → out.length = 7 * i → 5 - i < n →
    loopN (B42_5 kr ke) n ⟨a, 32, out, i⟩ = endRawB kr ke out i (rawB (5 - i) (a.drop i)) := by
  intro n
  induction n with
  | zero => intro i out _ _ h; omega
  | succ n ih =>
    intro i out hi ho hn
    rw [loop_succ]
    generalize loopN (B42_5 kr ke) n = rec at ih ⊢
    unfold B42_5
    simp only [cond_dec, cond_inB, p46_32]
    by_cases h5 : i = 5
    · subst h5
      rw [if_neg (by omega)]
      rfl
    · rw [if_pos (by omega)]
      obtain ⟨m, hm⟩ : ∃ m, 5 - i = m + 1 := ⟨4 - i, by omega⟩
      rw [hm]
      by_cases h : a.length ≤ i
      · rw [if_pos (by omega), List.drop_eq_nil_of_le (by omega)]; rfl
      · have hia' : i < a.length := by omega
        have hx := ha i
        have hg : a[i] = a.getD i 0 := by simp [List.getD, hia']
        rw [if_neg (by omega), List.drop_eq_getElem_cons hia', hg]
        unfold fuel42_10
        obtain ⟨q, hq⟩ := fuel_add 8 (by omega)
        rw [hq, show (0 : Int) = ((0 : Nat) : Int) from rfl]
        rw [jb1 (h := by omega) (hi := hia') (hx := hx) (ho := by omega), jb1 (h := by omega) (hi := hia') (hx := hx) (ho := by simp; omega), jb1 (h := by omega) (hi := hia') (hx := hx) (ho := by simp; omega), jb1 (h := by omega) (hi := hia') (hx := hx) (ho := by simp; omega),
          jb1 (h := by omega) (hi := hia') (hx := hx) (ho := by simp; omega), jb1 (h := by omega) (hi := hia') (hx := hx) (ho := by simp; omega), jb1 (h := by omega) (hi := hia') (hx := hx) (ho := by simp; omega), jb0 (h := by omega)]
        have e : ((i : Int)).toNat = i := Int.toNat_natCast i
        have hbits : out ++ [bit (a.getD i 0) 0] ++ [bit (a.getD i 0) (0 + 1)] ++ [bit (a.getD i 0) (0 + 1 + 1)] ++ [bit (a.getD i 0) (0 + 1 + 1 + 1)] ++ [bit (a.getD i 0) (0 + 1 + 1 + 1 + 1)] ++ [bit (a.getD i 0) (0 + 1 + 1 + 1 + 1 + 1)] ++ [bit (a.getD i 0) (0 + 1 + 1 + 1 + 1 + 1 + 1)] = out ++ bitsOf (a.getD i 0) := by
          simp [bitsOf, List.append_assoc]
        rw [hbits, if_pos (by omega), e, w_i64 (by omega)]
        generalize a.getD i 0 = x at hx ⊢
        by_cases h1 : x < 128
        · rw [if_pos h1]
          simp only [rawB, if_pos h1, endRawB]
          rfl
        · rw [if_neg h1]
          simp only [rawB, if_neg h1]
          have := ih (i + 1) (out ++ bitsOf x) (by omega) (by simp [bitsOf, ho]; omega) (by omega)
          rw [show ((i : Int) + 1) = ((i + 1 : Nat) : Int) by omega, this, show 5 - (i + 1) = m by omega]
          cases rawB m (a.drop (i + 1)) with
          | short => rfl
          | form => rfl
          | ok l k =>
            simp only [endRawB, List.append_assoc]
            congr 1
            omega

end Go.Trm.G1
