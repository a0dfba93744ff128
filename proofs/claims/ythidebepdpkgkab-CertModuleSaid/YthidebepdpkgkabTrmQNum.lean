import Derived.Test.YthidebepdpkgkabTrmPlain
import Derived.Test.YthidebepdpkgkabTrmG1
import Derived.KernelRfl
set_option linter.unusedVariables false
set_option linter.unusedSimpArgs false
namespace Go.Trm.G1

/-! Numbers in pieces of seven bits, up to 64 bits. -/

inductive Raw where
  | short
  | form
  | ok (v last : Int) (k : Nat)

/-- at most so many bytes -/
def raw : Nat → List Int → Raw
  | 0, _ => .form
  | _ + 1, [] => .short
  | m + 1, x :: r => if x < 128 then .ok x x 1 else match raw m r with
    | .ok v last k => .ok (x % 128 + 128 * v) last (k + 1)
    | e => e

def bytes (l : List Int) : Prop := ∀ i, 0 ≤ l.getD i 0 ∧ l.getD i 0 ≤ 255

theorem bytes_tail {x : Int} {l : List Int} (h : bytes (x :: l)) : bytes l := fun i => h (i + 1)
theorem bytes_head {x : Int} {l : List Int} (h : bytes (x :: l)) : 0 ≤ x ∧ x ≤ 255 := h 0
theorem bytes_drop {l : List Int} (h : bytes l) (n : Nat) : bytes (l.drop n) := fun i => by rw [drop_getD]; exact h _

theorem and127 {x : Int} (h : 0 ≤ x ∧ x ≤ 255) : IntKind.u8.wrap ((BitVec.ofInt IntKind.u8.bits x &&& BitVec.ofInt IntKind.u8.bits (127 : Int)).toNat) = x % 128 := by
  obtain ⟨n, rfl⟩ := Int.eq_ofNat_of_zero_le h.1
  have hn : n < 256 := by omega
  have e1 : BitVec.ofInt IntKind.u8.bits (n : Int) = BitVec.ofNat 8 n := by show BitVec.ofInt 8 (n : Int) = _; rw [BitVec.ofInt_natCast]
  have e2 : BitVec.ofInt IntKind.u8.bits (127 : Int) = BitVec.ofNat 8 127 := rfl
  rw [e1, e2]
  have e3 : (BitVec.ofNat 8 n &&& BitVec.ofNat 8 127).toNat = n % 128 := by
    rw [BitVec.toNat_and, BitVec.toNat_ofNat, BitVec.toNat_ofNat]
    rw [Nat.mod_eq_of_lt (show n < 2 ^ 8 from hn), show 127 % 2 ^ 8 = 2 ^ 7 - 1 from rfl, Nat.and_two_pow_sub_one_eq_mod]
  have e4 : ((BitVec.ofNat 8 n &&& BitVec.ofNat 8 127).toNat : Int) = (n : Int) % 128 := by rw [e3]; omega
  show IntKind.u8.wrap _ = _
  refine Eq.trans (congrArg _ e4) ?_
  exact w_u8 (by omega)


theorem or_wrap {a b : Int} (k c : Nat) (ha : 0 ≤ a ∧ a < 2 ^ k) (hb : b = 2 ^ k * (c : Int)) : IntKind.u64.wrap ((BitVec.ofInt IntKind.u64.bits a ||| BitVec.ofInt IntKind.u64.bits (IntKind.u64.wrap b)).toNat) = IntKind.u64.wrap (a + b) := by
  obtain ⟨n, rfl⟩ := Int.eq_ofNat_of_zero_le ha.1
  have hb' : b = ((2 ^ k * c : Nat) : Int) := by rw [hb, Int.natCast_mul, Int.natCast_pow]; rfl
  rw [hb']
  have hn : n < 2 ^ k := by
    have h2 := ha.2
    have h3 : ((2 : Int) ^ k) = ((2 ^ k : Nat) : Int) := (Int.natCast_pow 2 k).symm
    rw [h3] at h2
    exact Int.ofNat_lt.1 h2
  generalize hm : 2 ^ k * c = m
  have hw : IntKind.u64.wrap (m : Int) = ((m % 18446744073709551616 : Nat) : Int) := by
    show (m : Int) % 18446744073709551616 = _
    omega
  have e1 : BitVec.ofInt IntKind.u64.bits (n : Int) = BitVec.ofNat 64 n := by show BitVec.ofInt 64 (n : Int) = _; rw [BitVec.ofInt_natCast]
  have e2 : BitVec.ofInt IntKind.u64.bits (IntKind.u64.wrap (m : Int)) = BitVec.ofNat 64 m := by
    rw [hw]
    show BitVec.ofInt 64 _ = _
    rw [BitVec.ofInt_natCast]
    apply BitVec.eq_of_toNat_eq
    rw [BitVec.toNat_ofNat, BitVec.toNat_ofNat]
    omega
  rw [e1, e2]
  have e3 : (BitVec.ofNat 64 n ||| BitVec.ofNat 64 m).toNat = (n + m) % 18446744073709551616 := by
    rw [BitVec.toNat_or, BitVec.toNat_ofNat, BitVec.toNat_ofNat, ← Nat.or_mod_two_pow]
    rw [← hm, Nat.or_comm, ← Nat.two_pow_add_eq_or_of_lt hn, Nat.add_comm]
  refine Eq.trans (congrArg (fun z : Nat => IntKind.u64.wrap (z : Int)) e3) ?_
  show (((n + m) % 18446744073709551616 : Nat) : Int) % 18446744073709551616 = ((n : Int) + (m : Int)) % 18446744073709551616
  omega

theorem most_64 {R : Type} (K : Int → Option R) : p_leb_most 64 K = K 10 := rfl

theorem pow7 (i : Nat) : (2 : Int) ^ (7 * (i + 1)) = 128 * 2 ^ (7 * i) := by
  rw [show 7 * (i + 1) = 7 * i + 7 by omega, Int.pow_add, show ((2 : Int) ^ 7) = 128 from rfl, Int.mul_comm]
theorem pow7_pos (i : Nat) : (0 : Int) < 2 ^ (7 * i) := by
  rw [show ((2 : Int) ^ (7 * i)) = ((2 ^ (7 * i) : Nat) : Int) from (Int.natCast_pow 2 _).symm]
  have := Nat.two_pow_pos (7 * i)
  omega
theorem pow7_le (i : Nat) (hi : i ≤ 9) : (2 : Int) ^ (7 * i) ≤ 9223372036854775808 := by
  rcases (by omega : i = 0 ∨ i = 1 ∨ i = 2 ∨ i = 3 ∨ i = 4 ∨ i = 5 ∨ i = 6 ∨ i = 7 ∨ i = 8 ∨ i = 9) with rfl | rfl | rfl | rfl | rfl | rfl | rfl | rfl | rfl | rfl <;> decide

theorem shl7w (i : Nat) (y : Int) (hi : i ≤ 9) : shlI .u64 y ((7 * i : Nat) : Int) = IntKind.u64.wrap (2 ^ (7 * i) * y) := by
  unfold shlI
  have e : min (((7 * i : Nat) : Int)).toNat IntKind.u64.bits = 7 * i := by
    rw [Int.toNat_natCast]
    show min (7 * i) 64 = 7 * i
    omega
  rw [e, Int.mul_comm]

def endRaw {R : Type} (kr : Int → Int → Int → Int → Option R) (ke : Option R) (acc : Int) (i : Nat) : Raw → Option R
  | .short => ke
  | .form => kr 0 0 0 2
  | .ok v last k => kr (IntKind.u64.wrap (acc + 2 ^ (7 * i) * v)) last ((i + k : Nat) : Int) 0

theorem l40 {R : Type} (kr : Int → Int → Int → Int → Option R) (ke : Option R) (a : List Int) (ha : bytes a) (hl : a.length ≤ 4611686018427387904) : ∀ (n i : Nat) (acc : Int), i ≤ 9 → i ≤ a.length → 0 ≤ acc ∧ acc < 2 ^ (7 * i) → 10 - i < n →
    loopN (B_leb_raw_5 kr ke) n ⟨64, acc, a, a.length, i⟩ = endRaw kr ke acc i (raw (10 - i) (a.drop i)) := by
  intro n
  induction n with
  | zero => intro i acc _ _ _ h; omega
  | succ n ih =>
    intro i acc hi hia hacc hn
    rw [loop_succ]
    generalize loopN (B_leb_raw_5 kr ke) n = rec at ih ⊢
    unfold B_leb_raw_5
    simp only [cond_dec, cond_inB, most_64, cond_eq]
    obtain ⟨m, hm⟩ : ∃ m, 10 - i = m + 1 := ⟨9 - i, by omega⟩
    rw [hm]
    by_cases h : i = a.length
    · rw [if_neg (by omega), List.drop_eq_nil_of_le (by omega)]; rfl
    · have hia' : i < a.length := by omega
      have hx := ha i
      have e : ((i : Int)).toNat = i := Int.toNat_natCast i
      have hg : a[i] = a.getD i 0 := by simp [List.getD, hia']
      rw [if_pos (by omega), if_pos (by omega), e, List.drop_eq_getElem_cons hia', hg]
      generalize a.getD i 0 = x at hx ⊢
      have hy : 0 ≤ x % 128 ∧ x % 128 < 128 := by omega
      rw [and127 hx, w_i64 (n := 7 * (i : Int)) (by omega), w_u64 (n := 7 * (i : Int)) (by omega), w_u64 (n := x % 128) (by omega), if_pos (by omega), show (7 * (i : Int)) = ((7 * i : Nat) : Int) by omega, shl7w i _ hi]
      obtain ⟨yn, hyn⟩ : ∃ yn : Nat, x % 128 = yn := ⟨_, (Int.toNat_of_nonneg hy.1).symm⟩
      rw [or_wrap (7 * i) yn hacc (by rw [hyn]), w_i64 (n := (i : Int) + 1) (by omega)]
      by_cases h1 : x < 128
      · rw [if_pos h1]
        simp only [raw, if_pos h1, endRaw]
        rw [show x % 128 = x by omega]
        rfl
      · rw [if_neg h1]
        simp only [raw, if_neg h1]
        by_cases h2 : i = 9
        · subst h2
          rw [if_pos (by decide)]
          have : m = 0 := by omega
          subst this
          rfl
        · rw [if_neg (by omega)]
          have hp1 := pow7 i
          have hp2 := pow7_le (i + 1) (by omega)
          have hp0 := pow7_pos i
          have hmul : 2 ^ (7 * i) * (x % 128) ≤ 2 ^ (7 * i) * 127 := Int.mul_le_mul_of_nonneg_left (by omega) (by omega)
          have hmul0 : (0 : Int) ≤ 2 ^ (7 * i) * (x % 128) := Int.mul_nonneg (by omega) hy.1
          rw [w_u64 (n := acc + 2 ^ (7 * i) * (x % 128)) (by omega)]
          have := ih (i + 1) (acc + 2 ^ (7 * i) * (x % 128)) (by omega) (by omega) ⟨by omega, by omega⟩ (by omega)
          rw [show ((i : Int) + 1) = ((i + 1 : Nat) : Int) by omega, this, show 10 - (i + 1) = m by omega]
          cases raw m (a.drop (i + 1)) with
          | short => rfl
          | form => rfl
          | ok v last k =>
            simp only [endRaw]
            congr 1
            · rw [pow7 i, Int.mul_add, Int.mul_comm 128 (2 ^ (7 * i)), Int.mul_assoc, Int.add_assoc]
            · omega

/-- what is read as a number of 64 bits: it, how many bytes, the error -/
def u64S (l : List Int) : Int × Int × Int := match raw 10 l with
  | .short => (0, 0, 1)
  | .form => (0, 0, 2)
  | .ok v last k => if k = 10 ∧ 2 ≤ last then (0, 0, 2) else (v, k, 0)

theorem raw_ok {m : Nat} : ∀ {l : List Int} {v last : Int} {k : Nat}, bytes l → raw m l = .ok v last k → 1 ≤ k ∧ k ≤ m ∧ k ≤ l.length ∧ 0 ≤ v ∧ 0 ≤ last ∧ last < 128 := by
  induction m with
  | zero => intro l v last k _ h; cases h
  | succ m ih =>
    intro l v last k hb h
    cases l with
    | nil => cases h
    | cons x r =>
      have hx := bytes_head hb
      simp only [raw] at h
      split at h
      · cases h
        simp
        omega
      · split at h
        · rename_i v' last' k' he
          cases h
          obtain ⟨h1, h2, h3, h4, h5, h6⟩ := ih (bytes_tail hb) he
          simp only [List.length_cons]
          omega
        · rename_i he
          exact absurd h (he _ _ _)


theorem raw_le {m : Nat} : ∀ {l : List Int} {v last : Int} {k : Nat}, bytes l → raw m l = .ok v last k → v < (last + 1) * 128 ^ (k - 1) ∧ last * 128 ^ (k - 1) ≤ v := by
  induction m with
  | zero => intro l v last k _ h; cases h
  | succ m ih =>
    intro l v last k hb h
    cases l with
    | nil => cases h
    | cons x r =>
      have hx := bytes_head hb
      simp only [raw] at h
      split at h
      · cases h
        simp
        omega
      · split at h
        · rename_i v' last' k' he
          cases h
          obtain ⟨h1, h2⟩ := ih (bytes_tail hb) he
          obtain ⟨g1, _⟩ := raw_ok (bytes_tail hb) he
          obtain ⟨k'', rfl⟩ : ∃ j, k' = j + 1 := ⟨k' - 1, by omega⟩
          rw [show k'' + 1 + 1 - 1 = k'' + 1 by omega, Int.pow_succ]
          rw [show k'' + 1 - 1 = k'' by omega] at h1 h2
          generalize (128 : Int) ^ k'' = P at *
          rw [← Int.mul_assoc, ← Int.mul_assoc]
          omega
        · rename_i he
          exact absurd h (he _ _ _)

theorem u64_eq {R : Type} (a : List Int) (K : Int → Int → Int → Option R) (ha : bytes a) (hl : a.length ≤ 4611686018427387904) : p_leb_U a 64 K = K (u64S a).1 (u64S a).2.1 (u64S a).2.2 := by
  unfold p_leb_U p_leb_raw fuel_leb_raw_5
  have h := fun kr ke => l40 (R := R) kr ke a ha hl fuel64 0 0 (by omega) (by omega) (by omega) (lt_fuel (by omega))
  simp only [cond_dec]
  rw [if_neg (by omega), if_neg (by omega)]
  refine (h _ _).trans ?_
  rw [List.drop_zero, Nat.sub_zero]
  unfold u64S
  cases hr : raw 10 a with
  | short => rfl
  | form => rfl
  | ok v last k =>
    obtain ⟨h1, h2, h3, h4, h5, h6⟩ := raw_ok ha hr
    obtain ⟨h7, h8⟩ := raw_le ha hr
    simp only [endRaw, cond_ne, if_true, Nat.zero_add, Nat.mul_zero, Int.pow_zero, Int.one_mul, Int.zero_add]
    rw [w_i64 (n := (k : Int) - 1) (by omega), w_i64 (n := 7 * ((k : Int) - 1)) (by omega), w_i64 (n := 64 - 7 * ((k : Int) - 1)) (by omega)]
    by_cases hk : k = 10
    · subst hk
      rw [if_pos (by omega), w_u64 (n := 64 - _) (by omega), if_pos (by omega)]
      have hs : shrI .u8 last ((64 : Int) - 7 * (((10 : Nat) : Int) - 1)) = last / 2 := by
        show last.fdiv 2 = _
        exact Int.fdiv_eq_ediv_of_nonneg _ (by omega)
      rw [hs]
      by_cases hq : 2 ≤ last
      · rw [if_neg (by omega), if_pos ⟨rfl, hq⟩]
      · rw [if_pos (by omega), if_neg (by omega)]
        have : (128 : Int) ^ (10 - 1) = 9223372036854775808 := by decide
        rw [this] at h7
        rw [w_u64 (by omega)]
    · rw [if_neg (by omega), if_neg (by omega)]
      have : (128 : Int) ^ (k - 1) ≤ 72057594037927936 := by
        rcases (by omega : k = 1 ∨ k = 2 ∨ k = 3 ∨ k = 4 ∨ k = 5 ∨ k = 6 ∨ k = 7 ∨ k = 8 ∨ k = 9) with rfl | rfl | rfl | rfl | rfl | rfl | rfl | rfl | rfl <;> decide
      have hp : (last + 1) * 128 ^ (k - 1) ≤ (last + 1) * 72057594037927936 := Int.mul_le_mul_of_nonneg_left this (by omega)
      rw [w_u64 (by omega)]

/-- a number's bytes -/
def putN : Nat → Int → List Int
  | 0, n => [n]
  | f + 1, n => if n < 128 then [n] else (n % 128 + 128) :: putN f (n / 128)

theorem putN_len (f : Nat) : ∀ n, 1 ≤ (putN f n).length ∧ (putN f n).length ≤ f + 1 := by
  induction f with
  | zero => intro n; simp [putN]
  | succ f ih =>
    intro n
    unfold putN
    split
    · simp
    · have := ih (n / 128)
      simp only [List.length_cons]
      omega

theorem or128 {y : Int} (h : 0 ≤ y ∧ y ≤ 255) : IntKind.u8.wrap ((BitVec.ofInt IntKind.u8.bits y ||| BitVec.ofInt IntKind.u8.bits (128 : Int)).toNat) = y % 128 + 128 := by
  obtain ⟨n, rfl⟩ := Int.eq_ofNat_of_zero_le h.1
  have hn : n < 256 := by omega
  have e1 : BitVec.ofInt IntKind.u8.bits (n : Int) = BitVec.ofNat 8 n := by show BitVec.ofInt 8 (n : Int) = _; rw [BitVec.ofInt_natCast]
  have e2 : BitVec.ofInt IntKind.u8.bits (128 : Int) = BitVec.ofNat 8 128 := rfl
  rw [e1, e2]
  have key : ∀ y : Fin 256, (y.val ||| 128) = y.val % 128 + 128 := by decide +kernel
  have e3 : (BitVec.ofNat 8 n ||| BitVec.ofNat 8 128).toNat = n % 128 + 128 := by
    rw [BitVec.toNat_or, BitVec.toNat_ofNat, BitVec.toNat_ofNat, Nat.mod_eq_of_lt (show n < 2 ^ 8 from hn)]
    exact key ⟨n, hn⟩
  refine Eq.trans (congrArg (fun z : Nat => IntKind.u8.wrap (z : Int)) e3) ?_
  show IntKind.u8.wrap ((n % 128 + 128 : Nat) : Int) = _
  rw [w_u8 (by omega)]
  omega

theorem p128 (f : Nat) : (128 : Int) ^ (f + 1) = 128 ^ f * 128 := Int.pow_succ 128 f

theorem shr7 (n : Int) (h : 0 ≤ n) : shrI .u64 n 7 = n / 128 := by
  show n.fdiv 128 = _
  exact Int.fdiv_eq_ediv_of_nonneg _ (by omega)

theorem wrap8 (n : Int) : IntKind.u8.wrap n = n % 256 := rfl

theorem l36 {R : Type} (K : List Int → Option R) : ∀ (f n : Nat) (x : Int) (out : List Int), 0 ≤ x → x < 128 ^ (f + 1) → f < n → out.length + f + 1 ≤ most →
    loopN (B_leb_PutU_2 (fun w2 w3 => let v4 := IntKind.u8.wrap w2
      let v5 := List.set (List.replicate 1 (0 : Int)) 0 v4
      cond (decide (List.length w3 + List.length v5 ≤ most)) (let v6 := w3 ++ v5; K v6) none)) n ⟨x, out⟩ = K (out ++ putN f x) := by
  intro f
  induction f with
  | zero =>
    intro n x out h0 h1 hn hl
    obtain ⟨n, rfl⟩ : ∃ m, n = m + 1 := ⟨n - 1, by omega⟩
    have h1' : x < 128 := h1
    rw [loop_succ]
    unfold B_leb_PutU_2
    simp only [cond_dec]
    rw [if_neg (by omega), if_pos (by simp; omega), w_u8 (by omega)]
    rfl
  | succ f ih =>
    intro n x out h0 h1 hn hl
    obtain ⟨n, rfl⟩ : ∃ m, n = m + 1 := ⟨n - 1, by omega⟩
    rw [loop_succ]
    have ih := ih n
    generalize loopN (B_leb_PutU_2 (fun w2 w3 => let v4 := IntKind.u8.wrap w2
      let v5 := List.set (List.replicate 1 (0 : Int)) 0 v4
      cond (decide (List.length w3 + List.length v5 ≤ most)) (let v6 := w3 ++ v5; K v6) none)) n = rec at ih ⊢
    unfold B_leb_PutU_2 putN
    simp only [cond_dec]
    by_cases hx : x < 128
    · rw [if_neg (by omega), if_pos hx, if_pos (by simp; omega), w_u8 (by omega)]
      rfl
    · rw [if_pos (by omega), if_neg hx, if_pos (by simp; omega), if_pos (by omega), shr7 x h0, or128 (y := IntKind.u8.wrap x) (by rw [wrap8]; omega), wrap8]
      have hd : x / 128 < 128 ^ (f + 1) := Int.ediv_lt_of_lt_mul (by omega) (by rw [← p128]; exact h1)
      have hs : (List.replicate 1 (0 : Int)).set 0 (x % 256 % 128 + 128) = [x % 128 + 128] := by
        rw [show x % 256 % 128 = x % 128 by omega]
        rfl
      rw [hs, ih (x / 128) _ (by omega) hd (by omega) (by simp; omega), List.append_assoc]
      rfl

theorem p33_eq {R : Type} (a : List Int) (K : List Int → Option R) (h : a.length ≤ most) : p_slices_CloneU8 a K = K a := by
  unfold p_slices_CloneU8
  simp only [List.replicate_zero, List.nil_append, cond_dec, List.length_nil, Nat.zero_add]
  rw [if_pos h]
  cases a with
  | nil => simp [both_self]
  | cons x l => simp

theorem p36_eq {R : Type} (a : List Int) (n : Int) (K : List Int → Option R) (h0 : 0 ≤ n) (h1 : n ≤ 18446744073709551615) (h : a.length + 20 ≤ most) : p_leb_PutU a n K = K (a ++ putN 9 n) := by
  unfold p_leb_PutU
  rw [p33_eq a _ (by omega)]
  exact l36 K 9 fuel64 n a h0 (by
    have : (128 : Int) ^ (9 + 1) = 1180591620717411303424 := by decide
    omega) (lt_fuel (by omega)) (by omega)

theorem l37 {R : Type} (K : List Int → Option R) : ∀ (f n : Nat) (x : Int) (out : List Int), 0 ≤ x → x ≤ 18446744073709551615 → x < 128 ^ (f + 1) → f < n → out.length + f + 1 ≤ most →
    loopN (B_ref01_PutU_2 K) n ⟨x, out⟩ = K (out ++ putN f x) := by
  intro f
  induction f with
  | zero =>
    intro n x out h0 hx64 h1 hn hl
    obtain ⟨n, rfl⟩ : ∃ m, n = m + 1 := ⟨n - 1, by omega⟩
    have h1' : x < 128 := h1
    rw [loop_succ]
    unfold B_ref01_PutU_2
    simp only [cond_dec, cond_ne, cond_eq]
    rw [if_neg (by omega), if_neg (by omega), Int.tdiv_eq_ediv_of_nonneg h0, Int.tmod_eq_emod_of_nonneg h0, w_u64 (by omega), if_pos (by omega), if_pos (by simp; omega), w_u8 (by omega), show x % 128 = x by omega]
    rfl
  | succ f ih =>
    intro n x out h0 hx64 h1 hn hl
    obtain ⟨n, rfl⟩ : ∃ m, n = m + 1 := ⟨n - 1, by omega⟩
    rw [loop_succ]
    have ih := ih n
    generalize loopN (B_ref01_PutU_2 K) n = rec at ih ⊢
    unfold B_ref01_PutU_2 putN
    simp only [cond_dec, cond_ne, cond_eq]
    rw [if_neg (by omega), if_neg (by omega), Int.tdiv_eq_ediv_of_nonneg h0, Int.tmod_eq_emod_of_nonneg h0, w_u64 (by omega), w_u8 (n := x % 128) (by omega)]
    by_cases hx : x < 128
    · rw [if_pos (by omega), if_pos hx, if_pos (by simp; omega), show x % 128 = x by omega]
      rfl
    · have hd : x / 128 < 128 ^ (f + 1) := Int.ediv_lt_of_lt_mul (by omega) (by rw [← p128]; exact h1)
      rw [if_neg (by omega), if_neg hx, if_pos (by simp; omega), w_u8 (by omega), ih (x / 128) _ (by omega) (by omega) hd (by omega) (by simp; omega), List.append_assoc]
      rfl

theorem p37_eq {R : Type} (n : Int) (K : List Int → Option R) (h0 : 0 ≤ n) (h1 : n ≤ 18446744073709551615) : p_ref01_PutU n K = K (putN 9 n) := by
  unfold p_ref01_PutU
  exact l37 K 9 fuel64 n [] h0 h1 (by
    have : (128 : Int) ^ (9 + 1) = 1180591620717411303424 := by decide
    omega) (lt_fuel (by omega)) (by decide)

/-- two rows are the same -/
theorem l21 {R : Type} (kr : Bool → Option R) (ke : Option R) (a b : List Int) (hab : a.length = b.length) (ha : a.length ≤ 4611686018427387904) : ∀ (n i : Nat), i ≤ a.length → a.length - i < n →
    loopN (B_ref01_Same_4 kr ke) n ⟨a, b, i⟩ = if a.drop i = b.drop i then ke else kr false := by
  intro n
  induction n with
  | zero => intro i _ h; omega
  | succ n ih =>
    intro i hi hn
    rw [loop_succ]
    generalize loopN (B_ref01_Same_4 kr ke) n = rec at ih ⊢
    unfold B_ref01_Same_4
    simp only [cond_dec, cond_inB, cond_ne]
    by_cases h : i = a.length
    · rw [if_neg (by omega), List.drop_eq_nil_of_le (by omega), List.drop_eq_nil_of_le (by omega), if_pos rfl]
    · have hia : i < a.length := by omega
      have hib : i < b.length := by omega
      have e : ((i : Int)).toNat = i := Int.toNat_natCast i
      rw [if_pos (by omega), if_pos (by omega), if_pos (by omega), e, w_i64 (by omega), List.drop_eq_getElem_cons hia, List.drop_eq_getElem_cons hib]
      have ga : a.getD i 0 = a[i] := by simp [List.getD, hia]
      have gb : b.getD i 0 = b[i] := by simp [List.getD, hib]
      rw [ga, gb]
      have := ih (i + 1) (by omega) (by omega)
      rw [show ((i : Int) + 1) = ((i + 1 : Nat) : Int) by omega, this]
      by_cases h1 : a[i] = b[i]
      · rw [if_pos h1, h1]
        by_cases h2 : a.drop (i + 1) = b.drop (i + 1)
        · rw [if_pos h2, h2, if_pos rfl]
        · rw [if_neg h2, if_neg (by intro hc; exact h2 (List.cons.inj hc).2)]
      · rw [if_neg h1, if_neg (by intro hc; exact h1 (List.cons.inj hc).1)]

theorem p21_eq {R : Type} (a b : List Int) (K : Bool → Option R) (ha : a.length ≤ 4611686018427387904) : p_ref01_Same a b K = if a = b then K true else K false := by
  unfold p_ref01_Same
  simp only [cond_ne]
  by_cases h : a.length = b.length
  · rw [if_pos (by omega)]
    have := l21 K (K true) a b h ha fuel64 0 (by omega) (lt_fuel (by omega))
    rw [List.drop_zero, List.drop_zero] at this
    exact this
  · rw [if_neg (by omega), if_neg (by rintro rfl; exact h rfl)]

theorem bytes_take {l : List Int} (h : bytes l) (n : Nat) : bytes (l.take n) := fun i => by
  by_cases hi : i < n
  · have := h i
    simpa [List.getD_eq_getElem?_getD, List.getElem?_take, hi] using this
  · simp [List.getD_eq_getElem?_getD, List.getElem?_take, hi]

theorem bytes_u8 {l : List Int} (h : bytes l) : ∀ n ∈ l, IntKind.u8.has n := fun n hn => by
  obtain ⟨i, hi, rfl⟩ := List.getElem_of_mem hn
  have := h i
  rw [show l.getD i 0 = l[i] by simp [List.getD, hi]] at this
  exact this
theorem u8_bytes {l : List Int} (h : ∀ n ∈ l, IntKind.u8.has n) : bytes l := fun i => by
  by_cases hi : i < l.length
  · rw [show l.getD i 0 = l[i] by simp [List.getD, hi]]
    exact h _ (List.getElem_mem hi)
  · rw [show l.getD i 0 = 0 by simp [List.getD, hi]]
    omega

theorem rng_dt (l : List Int) (a b : Int) (h0 : 0 ≤ a) (h1 : 0 ≤ b) : rng l a (a + b) = (l.drop a.toNat).take b.toNat := by
  unfold rng
  rw [List.drop_take]
  congr 1
  omega


end Go.Trm.G1
