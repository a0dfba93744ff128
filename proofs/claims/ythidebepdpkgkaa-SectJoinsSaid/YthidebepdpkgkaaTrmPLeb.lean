import Derived.Test.YthidebepdpkgkaaTrmPUtf
set_option linter.unusedVariables false
set_option linter.unusedSimpArgs false
namespace Go.Trm.G1

/-! Numbers in pieces of seven bits. -/

inductive Raw where
  | short
  | form
  | ok (v last : Int) (k : Nat)

/-- at most so many bytes -/
def raw : Nat → List Int → Raw
  | 0, _ => .form
  | _ + 1, [] => .short
  | m + 1, x :: r => if x < 128 then .ok x x 1 else match raw m r with
    | .ok v last k => .ok (x % 128 + 128 * v) last (k + 1)
    | e => e

def bytes (l : List Int) : Prop := ∀ i, 0 ≤ l.getD i 0 ∧ l.getD i 0 ≤ 255

theorem bytes_tail {x : Int} {l : List Int} (h : bytes (x :: l)) : bytes l := fun i => h (i + 1)
theorem bytes_head {x : Int} {l : List Int} (h : bytes (x :: l)) : 0 ≤ x ∧ x ≤ 255 := h 0
theorem bytes_drop {l : List Int} (h : bytes l) (n : Nat) : bytes (l.drop n) := fun i => by rw [drop_getD]; exact h _

theorem and127 {x : Int} (h : 0 ≤ x ∧ x ≤ 255) : IntKind.u8.wrap ((BitVec.ofInt IntKind.u8.bits x &&& BitVec.ofInt IntKind.u8.bits (127 : Int)).toNat) = x % 128 := by
  obtain ⟨n, rfl⟩ := Int.eq_ofNat_of_zero_le h.1
  have hn : n < 256 := by omega
  have e1 : BitVec.ofInt IntKind.u8.bits (n : Int) = BitVec.ofNat 8 n := by show BitVec.ofInt 8 (n : Int) = _; rw [BitVec.ofInt_natCast]
  have e2 : BitVec.ofInt IntKind.u8.bits (127 : Int) = BitVec.ofNat 8 127 := rfl
  rw [e1, e2]
  have e3 : (BitVec.ofNat 8 n &&& BitVec.ofNat 8 127).toNat = n % 128 := by
    rw [BitVec.toNat_and, BitVec.toNat_ofNat, BitVec.toNat_ofNat]
    rw [Nat.mod_eq_of_lt (show n < 2 ^ 8 from hn), show 127 % 2 ^ 8 = 2 ^ 7 - 1 from rfl, Nat.and_two_pow_sub_one_eq_mod]
  have e4 : ((BitVec.ofNat 8 n &&& BitVec.ofNat 8 127).toNat : Int) = (n : Int) % 128 := by rw [e3]; omega
  show IntKind.u8.wrap _ = _
  refine Eq.trans (congrArg _ e4) ?_
  exact w_u8 (by omega)

theorem or_add {a b : Int} (k c : Nat) (ha : 0 ≤ a ∧ a < 2 ^ k) (hb : b = 2 ^ k * (c : Int)) (h : a + b < 18446744073709551616) : IntKind.u64.wrap ((BitVec.ofInt IntKind.u64.bits a ||| BitVec.ofInt IntKind.u64.bits b).toNat) = a + b := by
  obtain ⟨n, rfl⟩ := Int.eq_ofNat_of_zero_le ha.1
  have hb' : b = ((2 ^ k * c : Nat) : Int) := by rw [hb, Int.natCast_mul, Int.natCast_pow]; rfl
  rw [hb'] at h ⊢
  have hn : n < 2 ^ k := by
    have h2 := ha.2
    have h3 : ((2 : Int) ^ k) = ((2 ^ k : Nat) : Int) := (Int.natCast_pow 2 k).symm
    rw [h3] at h2
    exact Int.ofNat_lt.1 h2
  have hs : n + 2 ^ k * c < 18446744073709551616 := by
    rw [← Int.natCast_add] at h
    exact Int.ofNat_lt.1 h
  have e1 : BitVec.ofInt IntKind.u64.bits (n : Int) = BitVec.ofNat 64 n := by show BitVec.ofInt 64 (n : Int) = _; rw [BitVec.ofInt_natCast]
  have e2 : BitVec.ofInt IntKind.u64.bits ((2 ^ k * c : Nat) : Int) = BitVec.ofNat 64 (2 ^ k * c) := by show BitVec.ofInt 64 _ = _; rw [BitVec.ofInt_natCast]
  rw [e1, e2]
  have e3 : (BitVec.ofNat 64 n ||| BitVec.ofNat 64 (2 ^ k * c)).toNat = n + 2 ^ k * c := by
    rw [BitVec.toNat_or, BitVec.toNat_ofNat, BitVec.toNat_ofNat, Nat.mod_eq_of_lt (by omega), Nat.mod_eq_of_lt (by omega), Nat.or_comm, ← Nat.two_pow_add_eq_or_of_lt hn, Nat.add_comm]
  refine Eq.trans (congrArg (fun z : Nat => IntKind.u64.wrap (z : Int)) e3) ?_
  show IntKind.u64.wrap ((n + 2 ^ k * c : Nat) : Int) = _
  rw [w_u64 (by omega), Int.natCast_add]


theorem p45_32 {R : Type} (K : Int → Option R) : p_leb_most 32 K = K 5 := rfl

theorem pw (i : Nat) (hi : i ≤ 4) : (i = 0 ∧ (2 : Int) ^ (7 * i) = 1 ∧ (2 : Int) ^ (7 * (i + 1)) = 128) ∨ (i = 1 ∧ (2 : Int) ^ (7 * i) = 128 ∧ (2 : Int) ^ (7 * (i + 1)) = 16384) ∨ (i = 2 ∧ (2 : Int) ^ (7 * i) = 16384 ∧ (2 : Int) ^ (7 * (i + 1)) = 2097152) ∨
    (i = 3 ∧ (2 : Int) ^ (7 * i) = 2097152 ∧ (2 : Int) ^ (7 * (i + 1)) = 268435456) ∨ (i = 4 ∧ (2 : Int) ^ (7 * i) = 268435456 ∧ (2 : Int) ^ (7 * (i + 1)) = 34359738368) := by
  rcases (by omega : i = 0 ∨ i = 1 ∨ i = 2 ∨ i = 3 ∨ i = 4) with rfl | rfl | rfl | rfl | rfl <;> decide

theorem shl7 (i : Nat) (y : Int) (hi : i ≤ 4) (hy : 0 ≤ y ∧ y < 128) : shlI .u64 y ((7 * i : Nat) : Int) = 2 ^ (7 * i) * y := by
  unfold shlI
  have e : min (((7 * i : Nat) : Int)).toNat IntKind.u64.bits = 7 * i := by
    rw [Int.toNat_natCast]
    show min (7 * i) 64 = 7 * i
    omega
  rw [e, Int.mul_comm]
  refine w_u64 ?_
  rcases pw i hi with ⟨_, h, _⟩ | ⟨_, h, _⟩ | ⟨_, h, _⟩ | ⟨_, h, _⟩ | ⟨_, h, _⟩ <;> rw [h] <;> omega

def endRaw {R : Type} (kr : Int → Int → Int → Int → Option R) (ke : Option R) (acc : Int) (i : Nat) : Raw → Option R
  | .short => ke
  | .form => kr 0 0 0 2
  | .ok v last k => kr (acc + 2 ^ (7 * i) * v) last ((i + k : Nat) : Int) 0

theorem l40 {R : Type} (kr : Int → Int → Int → Int → Option R) (ke : Option R) (a : List Int) (ha : bytes a) (hl : a.length ≤ 4611686018427387904) : ∀ (n i : Nat) (acc : Int), i ≤ 4 → i ≤ a.length → 0 ≤ acc ∧ acc < 2 ^ (7 * i) → 5 - i < n →
    loopN (B_leb_raw_5 kr ke) n ⟨32, acc, a, a.length, i⟩ = endRaw kr ke acc i (raw (5 - i) (a.drop i)) := by
  intro n
  induction n with
  | zero => intro i acc _ _ _ h; omega
  | succ n ih =>
    intro i acc hi hia hacc hn
    rw [loop_succ]
    generalize loopN (B_leb_raw_5 kr ke) n = rec at ih ⊢
    unfold B_leb_raw_5
    simp only [cond_dec, cond_inB, p45_32, cond_eq]
    obtain ⟨m, hm⟩ : ∃ m, 5 - i = m + 1 := ⟨4 - i, by omega⟩
    rw [hm]
    by_cases h : i = a.length
    · rw [if_neg (by omega), List.drop_eq_nil_of_le (by omega)]; rfl
    · have hia' : i < a.length := by omega
      have hx := ha i
      have e : ((i : Int)).toNat = i := Int.toNat_natCast i
      have hg : a[i] = a.getD i 0 := by simp [List.getD, hia']
      rw [if_pos (by omega), if_pos (by omega), e, List.drop_eq_getElem_cons hia', hg]
      generalize a.getD i 0 = x at hx ⊢
      have hy : 0 ≤ x % 128 ∧ x % 128 < 128 := by omega
      rw [and127 hx, w_i64 (n := 7 * (i : Int)) (by omega), w_u64 (n := 7 * (i : Int)) (by omega), w_u64 (n := x % 128) (by omega), if_pos (by omega), show (7 * (i : Int)) = ((7 * i : Nat) : Int) by omega, shl7 i _ hi hy]
      have hp : 2 ^ (7 * i) * (x % 128) + acc < 2 ^ (7 * (i + 1)) ∧ (2 : Int) ^ (7 * (i + 1)) ≤ 34359738368 := by
        rcases pw i hi with ⟨_, h, h'⟩ | ⟨_, h, h'⟩ | ⟨_, h, h'⟩ | ⟨_, h, h'⟩ | ⟨_, h, h'⟩ <;> rw [h, h'] <;> rw [h] at hacc <;> omega
      obtain ⟨yn, hyn⟩ : ∃ yn : Nat, x % 128 = yn := ⟨_, (Int.toNat_of_nonneg hy.1).symm⟩
      rw [or_add (7 * i) yn hacc (by rw [hyn]) (by omega), w_i64 (n := (i : Int) + 1) (by omega)]
      by_cases h1 : x < 128
      · rw [if_pos h1]
        simp only [raw, if_pos h1, endRaw]
        rw [show x % 128 = x by omega]
        rfl
      · rw [if_neg h1]
        simp only [raw, if_neg h1]
        by_cases h2 : i = 4
        · subst h2
          rw [if_pos (by decide)]
          have : m = 0 := by omega
          subst this
          rfl
        · rw [if_neg (by omega)]
          have := ih (i + 1) (acc + 2 ^ (7 * i) * (x % 128)) (by omega) (by omega) ⟨by
            have : (0 : Int) ≤ 2 ^ (7 * i) * (x % 128) := Int.mul_nonneg (by rcases pw i hi with ⟨_, h, _⟩ | ⟨_, h, _⟩ | ⟨_, h, _⟩ | ⟨_, h, _⟩ | ⟨_, h, _⟩ <;> rw [h] <;> omega) hy.1
            omega, by omega⟩ (by omega)
          rw [show ((i : Int) + 1) = ((i + 1 : Nat) : Int) by omega, this, show 5 - (i + 1) = m by omega]
          cases raw m (a.drop (i + 1)) with
          | short => rfl
          | form => rfl
          | ok v last k =>
            simp only [endRaw]
            congr 1
            · rw [show 7 * (i + 1) = 7 * i + 7 by omega, Int.pow_add, Int.mul_add, show ((2 : Int) ^ 7) = 128 from rfl, Int.mul_assoc, Int.add_assoc]
            · omega

/-- what is read as a number of 32 bits: it, how many bytes, the error -/
def u32 (l : List Int) : Int × Int × Int := match raw 5 l with
  | .short => (0, 0, 1)
  | .form => (0, 0, 2)
  | .ok v last k => if k = 5 ∧ 16 ≤ last then (0, 0, 2) else (v, k, 0)

theorem raw_ok {m : Nat} : ∀ {l : List Int} {v last : Int} {k : Nat}, bytes l → raw m l = .ok v last k → 1 ≤ k ∧ k ≤ m ∧ k ≤ l.length ∧ 0 ≤ v ∧ 0 ≤ last ∧ last < 128 := by
  induction m with
  | zero => intro l v last k _ h; cases h
  | succ m ih =>
    intro l v last k hb h
    cases l with
    | nil => cases h
    | cons x r =>
      have hx := bytes_head hb
      simp only [raw] at h
      split at h
      · cases h
        simp
        omega
      · split at h
        · rename_i v' last' k' he
          cases h
          obtain ⟨h1, h2, h3, h4, h5, h6⟩ := ih (bytes_tail hb) he
          simp only [List.length_cons]
          omega
        · rename_i he
          exact absurd h (he _ _ _)

theorem p32_eq {R : Type} (a : List Int) (K : Int → Int → Int → Option R) (ha : bytes a) (hl : a.length ≤ 4611686018427387904) : p_leb_U a 32 K = K (u32 a).1 (u32 a).2.1 (u32 a).2.2 := by
  unfold p_leb_U p_leb_raw fuel_leb_raw_5
  have h := fun kr ke => l40 (R := R) kr ke a ha hl fuel64 0 0 (by omega) (by omega) (by omega) (lt_fuel (by omega))
  simp only [cond_dec]
  rw [if_neg (by omega), if_neg (by omega)]
  refine (h _ _).trans ?_
  rw [List.drop_zero, Nat.sub_zero]
  unfold u32
  cases hr : raw 5 a with
  | short => rfl
  | form => rfl
  | ok v last k =>
    obtain ⟨h1, h2, h3, h4, h5, h6⟩ := raw_ok ha hr
    simp only [endRaw, cond_ne, if_true, Nat.zero_add, Nat.mul_zero, Int.pow_zero, Int.one_mul, Int.zero_add]
    rw [w_i64 (n := (k : Int) - 1) (by omega), w_i64 (n := 7 * ((k : Int) - 1)) (by omega), w_i64 (n := 32 - 7 * ((k : Int) - 1)) (by omega)]
    by_cases hk : k = 5
    · subst hk
      rw [if_pos (by omega), w_u64 (by omega), if_pos (by omega)]
      have hs : shrI .u8 last ((32 : Int) - 7 * (((5 : Nat) : Int) - 1)) = last / 16 := by
        show last.fdiv 16 = _
        exact Int.fdiv_eq_ediv_of_nonneg _ (by omega)
      rw [hs]
      by_cases hq : 16 ≤ last
      · rw [if_neg (by omega), if_pos ⟨rfl, hq⟩]
      · rw [if_pos (by omega), if_neg (by omega)]
    · rw [if_neg (by omega), if_neg (by omega)]

/-- a number's bytes -/
def putN : Nat → Int → List Int
  | 0, n => [n]
  | f + 1, n => if n < 128 then [n] else (n % 128 + 128) :: putN f (n / 128)

theorem putN_len (f : Nat) : ∀ n, 1 ≤ (putN f n).length ∧ (putN f n).length ≤ f + 1 := by
  induction f with
  | zero => intro n; simp [putN]
  | succ f ih =>
    intro n
    unfold putN
    split
    · simp
    · have := ih (n / 128)
      simp only [List.length_cons]
      omega

theorem or128 {y : Int} (h : 0 ≤ y ∧ y ≤ 255) : IntKind.u8.wrap ((BitVec.ofInt IntKind.u8.bits y ||| BitVec.ofInt IntKind.u8.bits (128 : Int)).toNat) = y % 128 + 128 := by
  obtain ⟨n, rfl⟩ := Int.eq_ofNat_of_zero_le h.1
  have hn : n < 256 := by omega
  have e1 : BitVec.ofInt IntKind.u8.bits (n : Int) = BitVec.ofNat 8 n := by show BitVec.ofInt 8 (n : Int) = _; rw [BitVec.ofInt_natCast]
  have e2 : BitVec.ofInt IntKind.u8.bits (128 : Int) = BitVec.ofNat 8 128 := rfl
  rw [e1, e2]
  have key : ∀ y : Fin 256, (y.val ||| 128) = y.val % 128 + 128 := by decide +kernel
  have e3 : (BitVec.ofNat 8 n ||| BitVec.ofNat 8 128).toNat = n % 128 + 128 := by
    rw [BitVec.toNat_or, BitVec.toNat_ofNat, BitVec.toNat_ofNat, Nat.mod_eq_of_lt (show n < 2 ^ 8 from hn)]
    exact key ⟨n, hn⟩
  refine Eq.trans (congrArg (fun z : Nat => IntKind.u8.wrap (z : Int)) e3) ?_
  show IntKind.u8.wrap ((n % 128 + 128 : Nat) : Int) = _
  rw [w_u8 (by omega)]
  omega

theorem p128 (f : Nat) : (128 : Int) ^ (f + 1) = 128 ^ f * 128 := Int.pow_succ 128 f

theorem shr7 (n : Int) (h : 0 ≤ n) : shrI .u64 n 7 = n / 128 := by
  show n.fdiv 128 = _
  exact Int.fdiv_eq_ediv_of_nonneg _ (by omega)

theorem wrap8 (n : Int) : IntKind.u8.wrap n = n % 256 := rfl

theorem l36 {R : Type} (K : List Int → Option R) : ∀ (f n : Nat) (x : Int) (out : List Int), 0 ≤ x → x < 128 ^ (f + 1) → f < n → out.length + f + 1 ≤ most →
    loopN (B_leb_PutU_2 (fun w2 w3 => let v4 := IntKind.u8.wrap w2
      let v5 := List.set (List.replicate 1 (0 : Int)) 0 v4
      cond (decide (List.length w3 + List.length v5 ≤ most)) (let v6 := w3 ++ v5; K v6) none)) n ⟨x, out⟩ = K (out ++ putN f x) := by
  intro f
  induction f with
  | zero =>
    intro n x out h0 h1 hn hl
    obtain ⟨n, rfl⟩ : ∃ m, n = m + 1 := ⟨n - 1, by omega⟩
    have h1' : x < 128 := h1
    rw [loop_succ]
    unfold B_leb_PutU_2
    simp only [cond_dec]
    rw [if_neg (by omega), if_pos (by simp; omega), w_u8 (by omega)]
    rfl
  | succ f ih =>
    intro n x out h0 h1 hn hl
    obtain ⟨n, rfl⟩ : ∃ m, n = m + 1 := ⟨n - 1, by omega⟩
    rw [loop_succ]
    have ih := ih n
    generalize loopN (B_leb_PutU_2 (fun w2 w3 => let v4 := IntKind.u8.wrap w2
      let v5 := List.set (List.replicate 1 (0 : Int)) 0 v4
      cond (decide (List.length w3 + List.length v5 ≤ most)) (let v6 := w3 ++ v5; K v6) none)) n = rec at ih ⊢
    unfold B_leb_PutU_2 putN
    simp only [cond_dec]
    by_cases hx : x < 128
    · rw [if_neg (by omega), if_pos hx, if_pos (by simp; omega), w_u8 (by omega)]
      rfl
    · rw [if_pos (by omega), if_neg hx, if_pos (by simp; omega), if_pos (by omega), shr7 x h0, or128 (y := IntKind.u8.wrap x) (by rw [wrap8]; omega), wrap8]
      have hd : x / 128 < 128 ^ (f + 1) := Int.ediv_lt_of_lt_mul (by omega) (by rw [← p128]; exact h1)
      have hs : (List.replicate 1 (0 : Int)).set 0 (x % 256 % 128 + 128) = [x % 128 + 128] := by
        rw [show x % 256 % 128 = x % 128 by omega]
        rfl
      rw [hs, ih (x / 128) _ (by omega) hd (by omega) (by simp; omega), List.append_assoc]
      rfl

theorem p33_eq {R : Type} (a : List Int) (K : List Int → Option R) (h : a.length ≤ most) : p_slices_CloneU8 a K = K a := by
  unfold p_slices_CloneU8
  simp only [List.replicate_zero, List.nil_append, cond_dec, List.length_nil, Nat.zero_add]
  rw [if_pos h]
  cases a with
  | nil => simp [both_self]
  | cons x l => simp

theorem p36_eq {R : Type} (a : List Int) (n : Int) (K : List Int → Option R) (h0 : 0 ≤ n) (h1 : n ≤ 18446744073709551615) (h : a.length + 20 ≤ most) : p_leb_PutU a n K = K (a ++ putN 9 n) := by
  unfold p_leb_PutU
  rw [p33_eq a _ (by omega)]
  exact l36 K 9 fuel64 n a h0 (by
    have : (128 : Int) ^ (9 + 1) = 1180591620717411303424 := by decide
    omega) (lt_fuel (by omega)) (by omega)

section
variable {R : Type} (kx : List (List Int) → Int → Option R) (ky : List Int → Option R) (w l : List (List Int))
theorem c38a (n : Nat) (s len i : Int) (h : len ≤ i) : loopN (B_slices_ConcatU8_3 kx) (n + 1) ⟨w, s, l, len, i⟩ = kx w s := by
  rw [loop_succ]
  unfold B_slices_ConcatU8_3
  simp only [cond_dec]
  rw [if_neg (by omega)]
theorem c38b (n : Nat) (s len i : Int) (x : List Int) (h : i < len) (h0 : 0 ≤ i ∧ i < l.length) (hx : l.getD i.toNat [] = x) (hs : 0 ≤ s ∧ s ≤ 4294967296 ∧ x.length ≤ most) (hi : i ≤ 1000) :
    loopN (B_slices_ConcatU8_3 kx) (n + 1) ⟨w, s, l, len, i⟩ = loopN (B_slices_ConcatU8_3 kx) n ⟨w, s + x.length, l, len, i + 1⟩ := by
  have hmost : most = 4294967296 := rfl
  rw [loop_succ]
  unfold B_slices_ConcatU8_3
  simp only [cond_dec, cond_inB, hx]
  rw [if_pos h, if_pos h0, w_i64 (by omega), if_neg (by omega), w_i64 (by omega)]
theorem c38c (n : Nat) (o : List Int) (len i : Int) (h : len ≤ i) : loopN (B_slices_ConcatU8_11 ky) (n + 1) ⟨o, l, len, i⟩ = ky o := by
  rw [loop_succ]
  unfold B_slices_ConcatU8_11
  simp only [cond_dec]
  rw [if_neg (by omega)]
theorem c38d (n : Nat) (o : List Int) (len i : Int) (x : List Int) (h : i < len) (h0 : 0 ≤ i ∧ i < l.length) (hx : l.getD i.toNat [] = x) (hs : o.length + x.length ≤ most) (hi : i ≤ 1000) :
    loopN (B_slices_ConcatU8_11 ky) (n + 1) ⟨o, l, len, i⟩ = loopN (B_slices_ConcatU8_11 ky) n ⟨o ++ x, l, len, i + 1⟩ := by
  rw [loop_succ]
  unfold B_slices_ConcatU8_11
  simp only [cond_dec, cond_inB, hx]
  rw [if_pos h, if_pos h0, if_pos hs, w_i64 (by omega)]
end
/-- two rows behind each other -/
theorem p38_eq {R : Type} (x y : List Int) (K : List Int → Option R) (h : x.length + y.length ≤ most) : p_slices_ConcatU8 [x, y] K = K (x ++ y) := by
  unfold p_slices_ConcatU8 fuel_slices_ConcatU8_3 fuel_slices_ConcatU8_11
  obtain ⟨m, hm⟩ := fuel_add 3 (by omega)
  have hmost : most = 4294967296 := rfl
  rw [hm]
  simp only [List.length_cons, List.length_nil]
  rw [c38b (x := x) (h := by simp) (h0 := by simp) (hx := rfl) (hs := by omega) (hi := by omega), c38b (x := y) (h := by simp) (h0 := by simp) (hx := rfl) (hs := by omega) (hi := by omega), c38a (h := by simp)]
  unfold p_slices_GrowU8
  simp only [cond_dec, List.length_nil]
  rw [if_pos (by omega), c38d (x := x) (h := by simp) (h0 := by simp) (hx := rfl) (hs := by simp; omega) (hi := by omega), c38d (x := y) (h := by simp) (h0 := by simp) (hx := rfl) (hs := by simp; omega) (hi := by omega), c38c (h := by simp), List.nil_append]

/-- a name at the head -/
def nameS (l : List Int) : List UInt8 × Int × Int :=
  if (u32 l).2.2 ≠ 0 then ([], 0, (u32 l).2.2)
  else if (u32 l).1 > l.length - (u32 l).2.1 then ([], 0, 1)
  else if valid ((l.drop (u32 l).2.1.toNat).take (u32 l).1.toNat) = false then ([], 0, 2)
  else if (u32 l).1 > 64 then ([], 0, 4)
  else (u8s ((l.drop (u32 l).2.1.toNat).take (u32 l).1.toNat), (u32 l).2.1 + (u32 l).1, 0)

theorem u32_ok {l : List Int} (hb : bytes l) (h : (u32 l).2.2 = 0) : 0 ≤ (u32 l).1 ∧ 1 ≤ (u32 l).2.1 ∧ (u32 l).2.1 ≤ 5 ∧ (u32 l).2.1 ≤ l.length := by
  unfold u32 at h ⊢
  cases hr : raw 5 l with
  | short => rw [hr] at h; cases h
  | form => rw [hr] at h; cases h
  | ok v last k =>
    rw [hr] at h
    obtain ⟨h1, h2, h3, h4, h5, h6⟩ := raw_ok hb hr
    simp only at h ⊢
    split at h
    · cases h
    · rename_i hq
      rw [if_neg hq]
      simp only
      omega

theorem bytes_take {l : List Int} (h : bytes l) (n : Nat) : bytes (l.take n) := fun i => by
  by_cases hi : i < n
  · have := h i
    simpa [List.getD_eq_getElem?_getD, List.getElem?_take, hi] using this
  · simp [List.getD_eq_getElem?_getD, List.getElem?_take, hi]

theorem bytes_u8 {l : List Int} (h : bytes l) : ∀ n ∈ l, IntKind.u8.has n := fun n hn => by
  obtain ⟨i, hi, rfl⟩ := List.getElem_of_mem hn
  have := h i
  rw [show l.getD i 0 = l[i] by simp [List.getD, hi]] at this
  exact this
theorem u8_bytes {l : List Int} (h : ∀ n ∈ l, IntKind.u8.has n) : bytes l := fun i => by
  by_cases hi : i < l.length
  · rw [show l.getD i 0 = l[i] by simp [List.getD, hi]]
    exact h _ (List.getElem_mem hi)
  · rw [show l.getD i 0 = 0 by simp [List.getD, hi]]
    omega

theorem rng_dt (l : List Int) (a b : Int) (h0 : 0 ≤ a) (h1 : 0 ≤ b) : rng l a (a + b) = (l.drop a.toNat).take b.toNat := by
  unfold rng
  rw [List.drop_take]
  congr 1
  omega

theorem p22_eq {R : Type} (l : List Int) (K : List UInt8 → Int → Int → Option R) (hb : bytes l) (hl : l.length ≤ 4294967296) : p_utf_Name l K = K (nameS l).1 (nameS l).2.1 (nameS l).2.2 := by
  unfold p_utf_Name
  rw [p32_eq l _ hb (by omega)]
  unfold nameS
  simp only [cond_ne, cond_dec, cond_inR, cond_not]
  by_cases he : (u32 l).2.2 = 0
  · obtain ⟨h1, h2, h3, h4⟩ := u32_ok hb he
    rw [if_pos he, if_neg (show ¬ (u32 l).2.2 ≠ 0 from fun h => h he)]
    generalize (u32 l).1 = n at *
    generalize (u32 l).2.1 = k at *
    rw [w_i64 (n := (l.length : Int) - k) (by omega), w_u64 (n := (l.length : Int) - k) (by omega)]
    by_cases hn : n > (l.length : Int) - k
    · rw [if_pos hn, if_pos hn]
    · rw [if_neg hn, if_neg hn, w_i64 (n := n) (by omega), w_i64 (n := k + n) (by omega), if_pos (by omega), rng_dt l k n (by omega) h1]
      have hbt : bytes ((l.drop k.toNat).take n.toNat) := bytes_take (bytes_drop hb _) _
      have hlt : (((l.drop k.toNat).take n.toNat).length : Int) = n := by rw [List.length_take, List.length_drop]; omega
      have hlu : ((u8s ((l.drop k.toNat).take n.toNat)).length : Int) = n := by rw [u8s_len]; exact hlt
      rw [p11_eq _ _ (by omega), nums_u8s (bytes_u8 hbt), hlu]
      cases hv : valid ((l.drop k.toNat).take n.toNat) with
      | false => rfl
      | true =>
        simp only [if_true, cond_true, Bool.true_eq_false, if_false]
        by_cases h64 : n > 64
        · rw [if_pos h64, if_pos h64]
        · rw [if_neg h64, if_neg h64, w_i64 (by omega)]
  · rw [if_neg he, if_pos he]

/-- a name that is put -/
theorem p24_eq {R : Type} (b : List Int) (s : List UInt8) (K : List Int → Int → Option R) (hb : b.length ≤ 1000000) (hs : s.length ≤ 140737488351232) : p_utf_PutName b s K =
    if valid (nums s) = false then K [] 2 else if s.length > 64 then K [] 4 else K (b ++ putN 9 s.length ++ nums s) 0 := by
  have hmost : most = 4294967296 := rfl
  unfold p_utf_PutName
  rw [p11_eq _ _ (by omega)]
  simp only [cond_dec, cond_not]
  cases hv : valid (nums s) with
  | false => rfl
  | true =>
    simp only [if_true, cond_true, Bool.true_eq_false, if_false]
    by_cases h64 : s.length > 64
    · rw [if_pos (by omega), if_pos h64]
    · have hp := putN_len 9 (s.length : Int)
      rw [if_neg (by omega), if_neg h64, w_u64 (by omega), p36_eq _ _ _ (by omega) (by omega) (by omega), if_pos (by omega)]
      show p_slices_ConcatU8 [b ++ putN 9 (s.length : Int), nums s] _ = _
      rw [p38_eq _ _ _ (by rw [List.length_append, nums_len]; omega)]

end Go.Trm.G1
