import Derived.Test.YthidebepdpkgkaaTrmUtf4
set_option linter.unusedVariables false
set_option linter.unusedSimpArgs false
namespace Go.Trm.G1

/-! Numbers in pieces of seven bits. -/

inductive Raw where
  | short
  | form
  | ok (v last : Int) (k : Nat)

/-- at most so many bytes -/
def raw : Nat → List Int → Raw
  | 0, _ => .form
  | _ + 1, [] => .short
  | m + 1, x :: r => if x < 128 then .ok x x 1 else match raw m r with
    | .ok v last k => .ok (x % 128 + 128 * v) last (k + 1)
    | e => e

def bytes (l : List Int) : Prop := ∀ i, 0 ≤ l.getD i 0 ∧ l.getD i 0 ≤ 255

theorem bytes_tail {x : Int} {l : List Int} (h : bytes (x :: l)) : bytes l := fun i => h (i + 1)
theorem bytes_head {x : Int} {l : List Int} (h : bytes (x :: l)) : 0 ≤ x ∧ x ≤ 255 := h 0
theorem bytes_drop {l : List Int} (h : bytes l) (n : Nat) : bytes (l.drop n) := fun i => by rw [drop_getD]; exact h _

theorem and127 {x : Int} (h : 0 ≤ x ∧ x ≤ 255) : IntKind.u8.wrap ((BitVec.ofInt IntKind.u8.bits x &&& BitVec.ofInt IntKind.u8.bits (127 : Int)).toNat) = x % 128 := by
  obtain ⟨n, rfl⟩ := Int.eq_ofNat_of_zero_le h.1
  have hn : n < 256 := by omega
  have e1 : BitVec.ofInt IntKind.u8.bits (n : Int) = BitVec.ofNat 8 n := by show BitVec.ofInt 8 (n : Int) = _; rw [BitVec.ofInt_natCast]
  have e2 : BitVec.ofInt IntKind.u8.bits (127 : Int) = BitVec.ofNat 8 127 := rfl
  rw [e1, e2]
  have e3 : (BitVec.ofNat 8 n &&& BitVec.ofNat 8 127).toNat = n % 128 := by
    rw [BitVec.toNat_and, BitVec.toNat_ofNat, BitVec.toNat_ofNat]
    rw [Nat.mod_eq_of_lt (show n < 2 ^ 8 from hn), show 127 % 2 ^ 8 = 2 ^ 7 - 1 from rfl, Nat.and_two_pow_sub_one_eq_mod]
  have e4 : ((BitVec.ofNat 8 n &&& BitVec.ofNat 8 127).toNat : Int) = (n : Int) % 128 := by rw [e3]; omega
  show IntKind.u8.wrap _ = _
  refine Eq.trans (congrArg _ e4) ?_
  exact w_u8 (by omega)

theorem or_add {a b : Int} (k c : Nat) (ha : 0 ≤ a ∧ a < 2 ^ k) (hb : b = 2 ^ k * (c : Int)) (h : a + b < 18446744073709551616) : IntKind.u64.wrap ((BitVec.ofInt IntKind.u64.bits a ||| BitVec.ofInt IntKind.u64.bits b).toNat) = a + b := by
  obtain ⟨n, rfl⟩ := Int.eq_ofNat_of_zero_le ha.1
  have hb' : b = ((2 ^ k * c : Nat) : Int) := by rw [hb, Int.natCast_mul, Int.natCast_pow]; rfl
  rw [hb'] at h ⊢
  have hn : n < 2 ^ k := by
    have h2 := ha.2
    have h3 : ((2 : Int) ^ k) = ((2 ^ k : Nat) : Int) := (Int.natCast_pow 2 k).symm
    rw [h3] at h2
    exact Int.ofNat_lt.1 h2
  have hs : n + 2 ^ k * c < 18446744073709551616 := by
    rw [← Int.natCast_add] at h
    exact Int.ofNat_lt.1 h
  have e1 : BitVec.ofInt IntKind.u64.bits (n : Int) = BitVec.ofNat 64 n := by show BitVec.ofInt 64 (n : Int) = _; rw [BitVec.ofInt_natCast]
  have e2 : BitVec.ofInt IntKind.u64.bits ((2 ^ k * c : Nat) : Int) = BitVec.ofNat 64 (2 ^ k * c) := by show BitVec.ofInt 64 _ = _; rw [BitVec.ofInt_natCast]
  rw [e1, e2]
  have e3 : (BitVec.ofNat 64 n ||| BitVec.ofNat 64 (2 ^ k * c)).toNat = n + 2 ^ k * c := by
    rw [BitVec.toNat_or, BitVec.toNat_ofNat, BitVec.toNat_ofNat, Nat.mod_eq_of_lt (by omega), Nat.mod_eq_of_lt (by omega), Nat.or_comm, ← Nat.two_pow_add_eq_or_of_lt hn, Nat.add_comm]
  refine Eq.trans (congrArg (fun z : Nat => IntKind.u64.wrap (z : Int)) e3) ?_
  show IntKind.u64.wrap ((n + 2 ^ k * c : Nat) : Int) = _
  rw [w_u64 (by omega), Int.natCast_add]


theorem p45_32 {R : Type} (K : Int → Option R) : p45 32 K = K 5 := rfl

theorem pw (i : Nat) (hi : i ≤ 4) : (i = 0 ∧ (2 : Int) ^ (7 * i) = 1 ∧ (2 : Int) ^ (7 * (i + 1)) = 128) ∨ (i = 1 ∧ (2 : Int) ^ (7 * i) = 128 ∧ (2 : Int) ^ (7 * (i + 1)) = 16384) ∨ (i = 2 ∧ (2 : Int) ^ (7 * i) = 16384 ∧ (2 : Int) ^ (7 * (i + 1)) = 2097152) ∨
    (i = 3 ∧ (2 : Int) ^ (7 * i) = 2097152 ∧ (2 : Int) ^ (7 * (i + 1)) = 268435456) ∨ (i = 4 ∧ (2 : Int) ^ (7 * i) = 268435456 ∧ (2 : Int) ^ (7 * (i + 1)) = 34359738368) := by
  rcases (by omega : i = 0 ∨ i = 1 ∨ i = 2 ∨ i = 3 ∨ i = 4) with rfl | rfl | rfl | rfl | rfl <;> decide

theorem shl7 (i : Nat) (y : Int) (hi : i ≤ 4) (hy : 0 ≤ y ∧ y < 128) : shlI .u64 y ((7 * i : Nat) : Int) = 2 ^ (7 * i) * y := by
  unfold shlI
  have e : min (((7 * i : Nat) : Int)).toNat IntKind.u64.bits = 7 * i := by
    rw [Int.toNat_natCast]
    show min (7 * i) 64 = 7 * i
    omega
  rw [e, Int.mul_comm]
  refine w_u64 ?_
  rcases pw i hi with ⟨_, h, _⟩ | ⟨_, h, _⟩ | ⟨_, h, _⟩ | ⟨_, h, _⟩ | ⟨_, h, _⟩ <;> rw [h] <;> omega

def endRaw {R : Type} (kr : Int → Int → Int → Int → Option R) (ke : Option R) (acc : Int) (i : Nat) : Raw → Option R
  | .short => ke
  | .form => kr 0 0 0 2
  | .ok v last k => kr (acc + 2 ^ (7 * i) * v) last ((i + k : Nat) : Int) 0

theorem l40 {R : Type} (kr : Int → Int → Int → Int → Option R) (ke : Option R) (a : List Int) (ha : bytes a) (hl : a.length ≤ 4611686018427387904) : ∀ (n i : Nat) (acc : Int), i ≤ 4 → i ≤ a.length → 0 ≤ acc ∧ acc < 2 ^ (7 * i) → 5 - i < n →
    loopN (B40_5 kr ke) n ⟨32, acc, a, a.length, i⟩ = endRaw kr ke acc i (raw (5 - i) (a.drop i)) := by
  intro n
  induction n with
  | zero => intro i acc _ _ _ h; omega
  | succ n ih =>
    intro i acc hi hia hacc hn
    rw [loop_succ]
    generalize loopN (B40_5 kr ke) n = rec at ih ⊢
    unfold B40_5
    simp only [cond_dec, cond_inB, p45_32, cond_eq]
    obtain ⟨m, hm⟩ : ∃ m, 5 - i = m + 1 := ⟨4 - i, by omega⟩
    rw [hm]
    by_cases h : i = a.length
    · rw [if_neg (by omega), List.drop_eq_nil_of_le (by omega)]; rfl
    · have hia' : i < a.length := by omega
      have hx := ha i
      have e : ((i : Int)).toNat = i := Int.toNat_natCast i
      have hg : a[i] = a.getD i 0 := by simp [List.getD, hia']
      rw [if_pos (by omega), if_pos (by omega), e, List.drop_eq_getElem_cons hia', hg]
      generalize a.getD i 0 = x at hx ⊢
      have hy : 0 ≤ x % 128 ∧ x % 128 < 128 := by omega
      rw [and127 hx, w_i64 (n := 7 * (i : Int)) (by omega), w_u64 (n := 7 * (i : Int)) (by omega), w_u64 (n := x % 128) (by omega), if_pos (by omega), show (7 * (i : Int)) = ((7 * i : Nat) : Int) by omega, shl7 i _ hi hy]
      have hp : 2 ^ (7 * i) * (x % 128) + acc < 2 ^ (7 * (i + 1)) ∧ (2 : Int) ^ (7 * (i + 1)) ≤ 34359738368 := by
        rcases pw i hi with ⟨_, h, h'⟩ | ⟨_, h, h'⟩ | ⟨_, h, h'⟩ | ⟨_, h, h'⟩ | ⟨_, h, h'⟩ <;> rw [h, h'] <;> rw [h] at hacc <;> omega
      obtain ⟨yn, hyn⟩ : ∃ yn : Nat, x % 128 = yn := ⟨_, (Int.toNat_of_nonneg hy.1).symm⟩
      rw [or_add (7 * i) yn hacc (by rw [hyn]) (by omega), w_i64 (n := (i : Int) + 1) (by omega)]
      by_cases h1 : x < 128
      · rw [if_pos h1]
        simp only [raw, if_pos h1, endRaw]
        rw [show x % 128 = x by omega]
        rfl
      · rw [if_neg h1]
        simp only [raw, if_neg h1]
        by_cases h2 : i = 4
        · subst h2
          rw [if_pos (by decide)]
          have : m = 0 := by omega
          subst this
          rfl
        · rw [if_neg (by omega)]
          have := ih (i + 1) (acc + 2 ^ (7 * i) * (x % 128)) (by omega) (by omega) ⟨by
            have : (0 : Int) ≤ 2 ^ (7 * i) * (x % 128) := Int.mul_nonneg (by rcases pw i hi with ⟨_, h, _⟩ | ⟨_, h, _⟩ | ⟨_, h, _⟩ | ⟨_, h, _⟩ | ⟨_, h, _⟩ <;> rw [h] <;> omega) hy.1
            omega, by omega⟩ (by omega)
          rw [show ((i : Int) + 1) = ((i + 1 : Nat) : Int) by omega, this, show 5 - (i + 1) = m by omega]
          cases raw m (a.drop (i + 1)) with
          | short => rfl
          | form => rfl
          | ok v last k =>
            simp only [endRaw]
            congr 1
            · rw [show 7 * (i + 1) = 7 * i + 7 by omega, Int.pow_add, Int.mul_add, show ((2 : Int) ^ 7) = 128 from rfl, Int.mul_assoc, Int.add_assoc]
            · omega

end Go.Trm.G1
