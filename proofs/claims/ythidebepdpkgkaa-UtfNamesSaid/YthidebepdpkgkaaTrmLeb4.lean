import Derived.Test.YthidebepdpkgkaaTrmLeb3
set_option linter.unusedVariables false
set_option linter.unusedSimpArgs false
namespace Go.Trm.G1

/-- a number's bytes -/
def putN : Nat → Int → List Int
  | 0, n => [n]
  | f + 1, n => if n < 128 then [n] else (n % 128 + 128) :: putN f (n / 128)

theorem putN_len (f : Nat) : ∀ n, 1 ≤ (putN f n).length ∧ (putN f n).length ≤ f + 1 := by
  induction f with
  | zero => intro n; simp [putN]
  | succ f ih =>
    intro n
    unfold putN
    split
    · simp
    · have := ih (n / 128)
      simp only [List.length_cons]
      omega

theorem or128 {y : Int} (h : 0 ≤ y ∧ y ≤ 255) : IntKind.u8.wrap ((BitVec.ofInt IntKind.u8.bits y ||| BitVec.ofInt IntKind.u8.bits (128 : Int)).toNat) = y % 128 + 128 := by
  obtain ⟨n, rfl⟩ := Int.eq_ofNat_of_zero_le h.1
  have hn : n < 256 := by omega
  have e1 : BitVec.ofInt IntKind.u8.bits (n : Int) = BitVec.ofNat 8 n := by show BitVec.ofInt 8 (n : Int) = _; rw [BitVec.ofInt_natCast]
  have e2 : BitVec.ofInt IntKind.u8.bits (128 : Int) = BitVec.ofNat 8 128 := rfl
  rw [e1, e2]
  have key : ∀ y : Fin 256, (y.val ||| 128) = y.val % 128 + 128 := by decide +kernel
  have e3 : (BitVec.ofNat 8 n ||| BitVec.ofNat 8 128).toNat = n % 128 + 128 := by
    rw [BitVec.toNat_or, BitVec.toNat_ofNat, BitVec.toNat_ofNat, Nat.mod_eq_of_lt (show n < 2 ^ 8 from hn)]
    exact key ⟨n, hn⟩
  refine Eq.trans (congrArg (fun z : Nat => IntKind.u8.wrap (z : Int)) e3) ?_
  show IntKind.u8.wrap ((n % 128 + 128 : Nat) : Int) = _
  rw [w_u8 (by omega)]
  omega

theorem p128 (f : Nat) : (128 : Int) ^ (f + 1) = 128 ^ f * 128 := Int.pow_succ 128 f

theorem shr7 (n : Int) (h : 0 ≤ n) : shrI .u64 n 7 = n / 128 := by
  show n.fdiv 128 = _
  exact Int.fdiv_eq_ediv_of_nonneg _ (by omega)

theorem wrap8 (n : Int) : IntKind.u8.wrap n = n % 256 := rfl

theorem l36 {R : Type} (K : List Int → Option R) : ∀ (f n : Nat) (x : Int) (out : List Int), 0 ≤ x → x < 128 ^ (f + 1) → f < n → out.length + f + 1 ≤ most →
    loopN (B36_2 (fun w2 w3 => let v4 := IntKind.u8.wrap w2
      let v5 := List.set (List.replicate 1 (0 : Int)) 0 v4
      cond (decide (List.length w3 + List.length v5 ≤ most)) (let v6 := w3 ++ v5; K v6) none)) n ⟨x, out⟩ = K (out ++ putN f x) := by
  intro f
  induction f with
  | zero =>
    intro n x out h0 h1 hn hl
    obtain ⟨n, rfl⟩ : ∃ m, n = m + 1 := ⟨n - 1, by omega⟩
    have h1' : x < 128 := h1
    rw [loop_succ]
    unfold B36_2
    simp only [cond_dec]
    rw [if_neg (by omega), if_pos (by simp; omega), w_u8 (by omega)]
    rfl
  | succ f ih =>
    intro n x out h0 h1 hn hl
    obtain ⟨n, rfl⟩ : ∃ m, n = m + 1 := ⟨n - 1, by omega⟩
    rw [loop_succ]
    have ih := ih n
    generalize loopN (B36_2 (fun w2 w3 => let v4 := IntKind.u8.wrap w2
      let v5 := List.set (List.replicate 1 (0 : Int)) 0 v4
      cond (decide (List.length w3 + List.length v5 ≤ most)) (let v6 := w3 ++ v5; K v6) none)) n = rec at ih ⊢
    unfold B36_2 putN
    simp only [cond_dec]
    by_cases hx : x < 128
    · rw [if_neg (by omega), if_pos hx, if_pos (by simp; omega), w_u8 (by omega)]
      rfl
    · rw [if_pos (by omega), if_neg hx, if_pos (by simp; omega), if_pos (by omega), shr7 x h0, or128 (y := IntKind.u8.wrap x) (by rw [wrap8]; omega), wrap8]
      have hd : x / 128 < 128 ^ (f + 1) := Int.ediv_lt_of_lt_mul (by omega) (by rw [← p128]; exact h1)
      have hs : (List.replicate 1 (0 : Int)).set 0 (x % 256 % 128 + 128) = [x % 128 + 128] := by
        rw [show x % 256 % 128 = x % 128 by omega]
        rfl
      rw [hs, ih (x / 128) _ (by omega) hd (by omega) (by simp; omega), List.append_assoc]
      rfl

theorem p33_eq {R : Type} (a : List Int) (K : List Int → Option R) (h : a.length ≤ most) : p33 a K = K a := by
  unfold p33
  simp only [List.replicate_zero, List.nil_append, cond_dec, List.length_nil, Nat.zero_add]
  rw [if_pos h]
  cases a with
  | nil => simp [both_self]
  | cons x l => simp

theorem p36_eq {R : Type} (a : List Int) (n : Int) (K : List Int → Option R) (h0 : 0 ≤ n) (h1 : n ≤ 18446744073709551615) (h : a.length + 20 ≤ most) : p36 a n K = K (a ++ putN 9 n) := by
  unfold p36
  rw [p33_eq a _ (by omega)]
  exact l36 K 9 fuel64 n a h0 (by
    have : (128 : Int) ^ (9 + 1) = 1180591620717411303424 := by decide
    omega) (lt_fuel (by omega)) (by omega)

theorem l37 {R : Type} (K : List Int → Option R) : ∀ (f n : Nat) (x : Int) (out : List Int), 0 ≤ x → x ≤ 18446744073709551615 → x < 128 ^ (f + 1) → f < n → out.length + f + 1 ≤ most →
    loopN (B37_2 K) n ⟨x, out⟩ = K (out ++ putN f x) := by
  intro f
  induction f with
  | zero =>
    intro n x out h0 hx64 h1 hn hl
    obtain ⟨n, rfl⟩ : ∃ m, n = m + 1 := ⟨n - 1, by omega⟩
    have h1' : x < 128 := h1
    rw [loop_succ]
    unfold B37_2
    simp only [cond_dec, cond_ne, cond_eq]
    rw [if_neg (by omega), if_neg (by omega), Int.tdiv_eq_ediv_of_nonneg h0, Int.tmod_eq_emod_of_nonneg h0, w_u64 (by omega), if_pos (by omega), if_pos (by simp; omega), w_u8 (by omega), show x % 128 = x by omega]
    rfl
  | succ f ih =>
    intro n x out h0 hx64 h1 hn hl
    obtain ⟨n, rfl⟩ : ∃ m, n = m + 1 := ⟨n - 1, by omega⟩
    rw [loop_succ]
    have ih := ih n
    generalize loopN (B37_2 K) n = rec at ih ⊢
    unfold B37_2 putN
    simp only [cond_dec, cond_ne, cond_eq]
    rw [if_neg (by omega), if_neg (by omega), Int.tdiv_eq_ediv_of_nonneg h0, Int.tmod_eq_emod_of_nonneg h0, w_u64 (by omega), w_u8 (n := x % 128) (by omega)]
    by_cases hx : x < 128
    · rw [if_pos (by omega), if_pos hx, if_pos (by simp; omega), show x % 128 = x by omega]
      rfl
    · have hd : x / 128 < 128 ^ (f + 1) := Int.ediv_lt_of_lt_mul (by omega) (by rw [← p128]; exact h1)
      rw [if_neg (by omega), if_neg hx, if_pos (by simp; omega), w_u8 (by omega), ih (x / 128) _ (by omega) (by omega) hd (by omega) (by simp; omega), List.append_assoc]
      rfl

theorem p37_eq {R : Type} (n : Int) (K : List Int → Option R) (h0 : 0 ≤ n) (h1 : n ≤ 18446744073709551615) : p37 n K = K (putN 9 n) := by
  unfold p37
  exact l37 K 9 fuel64 n [] h0 h1 (by
    have : (128 : Int) ^ (9 + 1) = 1180591620717411303424 := by decide
    omega) (lt_fuel (by omega)) (by decide)

section
variable {R : Type} (kx : List (List Int) → Int → Option R) (ky : List Int → Option R) (w l : List (List Int))
theorem c38a (n : Nat) (s len i : Int) (h : len ≤ i) : loopN (B38_3 kx) (n + 1) ⟨w, s, l, len, i⟩ = kx w s := by
  rw [loop_succ]
  unfold B38_3
  simp only [cond_dec]
  rw [if_neg (by omega)]
theorem c38b (n : Nat) (s len i : Int) (x : List Int) (h : i < len) (h0 : 0 ≤ i ∧ i < l.length) (hx : l.getD i.toNat [] = x) (hs : 0 ≤ s ∧ s ≤ 4294967296 ∧ x.length ≤ most) (hi : i ≤ 1000) :
    loopN (B38_3 kx) (n + 1) ⟨w, s, l, len, i⟩ = loopN (B38_3 kx) n ⟨w, s + x.length, l, len, i + 1⟩ := by
  have hmost : most = 4294967296 := rfl
  rw [loop_succ]
  unfold B38_3
  simp only [cond_dec, cond_inB, hx]
  rw [if_pos h, if_pos h0, w_i64 (by omega), if_neg (by omega), w_i64 (by omega)]
theorem c38c (n : Nat) (o : List Int) (len i : Int) (h : len ≤ i) : loopN (B38_11 ky) (n + 1) ⟨o, l, len, i⟩ = ky o := by
  rw [loop_succ]
  unfold B38_11
  simp only [cond_dec]
  rw [if_neg (by omega)]
theorem c38d (n : Nat) (o : List Int) (len i : Int) (x : List Int) (h : i < len) (h0 : 0 ≤ i ∧ i < l.length) (hx : l.getD i.toNat [] = x) (hs : o.length + x.length ≤ most) (hi : i ≤ 1000) :
    loopN (B38_11 ky) (n + 1) ⟨o, l, len, i⟩ = loopN (B38_11 ky) n ⟨o ++ x, l, len, i + 1⟩ := by
  rw [loop_succ]
  unfold B38_11
  simp only [cond_dec, cond_inB, hx]
  rw [if_pos h, if_pos h0, if_pos hs, w_i64 (by omega)]
end
/-- two rows behind each other -/
theorem p38_eq {R : Type} (x y : List Int) (K : List Int → Option R) (h : x.length + y.length ≤ most) : p38 [x, y] K = K (x ++ y) := by
  unfold p38 fuel38_3 fuel38_11
  obtain ⟨m, hm⟩ := fuel_add 3 (by omega)
  have hmost : most = 4294967296 := rfl
  rw [hm]
  simp only [List.length_cons, List.length_nil]
  rw [c38b (x := x) (h := by simp) (h0 := by simp) (hx := rfl) (hs := by omega) (hi := by omega), c38b (x := y) (h := by simp) (h0 := by simp) (hx := rfl) (hs := by omega) (hi := by omega), c38a (h := by simp)]
  unfold p43
  simp only [cond_dec, List.length_nil]
  rw [if_pos (by omega), c38d (x := x) (h := by simp) (h0 := by simp) (hx := rfl) (hs := by simp; omega) (hi := by omega), c38d (x := y) (h := by simp) (h0 := by simp) (hx := rfl) (hs := by simp; omega) (hi := by omega), c38c (h := by simp), List.nil_append]

/-- a name at the head -/
def nameS (l : List Int) : List UInt8 × Int × Int :=
  if (u32 l).2.2 ≠ 0 then ([], 0, (u32 l).2.2)
  else if (u32 l).1 > l.length - (u32 l).2.1 then ([], 0, 1)
  else if valid ((l.drop (u32 l).2.1.toNat).take (u32 l).1.toNat) = false then ([], 0, 2)
  else if (u32 l).1 > 64 then ([], 0, 4)
  else (u8s ((l.drop (u32 l).2.1.toNat).take (u32 l).1.toNat), (u32 l).2.1 + (u32 l).1, 0)

theorem u32_ok {l : List Int} (hb : bytes l) (h : (u32 l).2.2 = 0) : 0 ≤ (u32 l).1 ∧ 1 ≤ (u32 l).2.1 ∧ (u32 l).2.1 ≤ 5 ∧ (u32 l).2.1 ≤ l.length := by
  unfold u32 at h ⊢
  cases hr : raw 5 l with
  | short => rw [hr] at h; cases h
  | form => rw [hr] at h; cases h
  | ok v last k =>
    rw [hr] at h
    obtain ⟨h1, h2, h3, h4, h5, h6⟩ := raw_ok hb hr
    simp only at h ⊢
    split at h
    · cases h
    · rename_i hq
      rw [if_neg hq]
      simp only
      omega

theorem bytes_take {l : List Int} (h : bytes l) (n : Nat) : bytes (l.take n) := fun i => by
  by_cases hi : i < n
  · have := h i
    simpa [List.getD_eq_getElem?_getD, List.getElem?_take, hi] using this
  · simp [List.getD_eq_getElem?_getD, List.getElem?_take, hi]

theorem bytes_u8 {l : List Int} (h : bytes l) : ∀ n ∈ l, IntKind.u8.has n := fun n hn => by
  obtain ⟨i, hi, rfl⟩ := List.getElem_of_mem hn
  have := h i
  rw [show l.getD i 0 = l[i] by simp [List.getD, hi]] at this
  exact this
theorem u8_bytes {l : List Int} (h : ∀ n ∈ l, IntKind.u8.has n) : bytes l := fun i => by
  by_cases hi : i < l.length
  · rw [show l.getD i 0 = l[i] by simp [List.getD, hi]]
    exact h _ (List.getElem_mem hi)
  · rw [show l.getD i 0 = 0 by simp [List.getD, hi]]
    omega

theorem rng_dt (l : List Int) (a b : Int) (h0 : 0 ≤ a) (h1 : 0 ≤ b) : rng l a (a + b) = (l.drop a.toNat).take b.toNat := by
  unfold rng
  rw [List.drop_take]
  congr 1
  omega

theorem p22_eq {R : Type} (l : List Int) (K : List UInt8 → Int → Int → Option R) (hb : bytes l) (hl : l.length ≤ 4294967296) : p22 l K = K (nameS l).1 (nameS l).2.1 (nameS l).2.2 := by
  unfold p22
  rw [p32_eq l _ hb (by omega)]
  unfold nameS
  simp only [cond_ne, cond_dec, cond_inR, cond_not]
  by_cases he : (u32 l).2.2 = 0
  · obtain ⟨h1, h2, h3, h4⟩ := u32_ok hb he
    rw [if_pos he, if_neg (show ¬ (u32 l).2.2 ≠ 0 from fun h => h he)]
    generalize (u32 l).1 = n at *
    generalize (u32 l).2.1 = k at *
    rw [w_i64 (n := (l.length : Int) - k) (by omega), w_u64 (n := (l.length : Int) - k) (by omega)]
    by_cases hn : n > (l.length : Int) - k
    · rw [if_pos hn, if_pos hn]
    · rw [if_neg hn, if_neg hn, w_i64 (n := n) (by omega), w_i64 (n := k + n) (by omega), if_pos (by omega), rng_dt l k n (by omega) h1]
      have hbt : bytes ((l.drop k.toNat).take n.toNat) := bytes_take (bytes_drop hb _) _
      have hlt : (((l.drop k.toNat).take n.toNat).length : Int) = n := by rw [List.length_take, List.length_drop]; omega
      have hlu : ((u8s ((l.drop k.toNat).take n.toNat)).length : Int) = n := by rw [u8s_len]; exact hlt
      rw [p11_eq _ _ (by omega), nums_u8s (bytes_u8 hbt), hlu]
      cases hv : valid ((l.drop k.toNat).take n.toNat) with
      | false => rfl
      | true =>
        simp only [if_true, cond_true, Bool.true_eq_false, if_false]
        by_cases h64 : n > 64
        · rw [if_pos h64, if_pos h64]
        · rw [if_neg h64, if_neg h64, w_i64 (by omega)]
  · rw [if_neg he, if_pos he]

theorem p23_eq {R : Type} (l : List Int) (K : List UInt8 → Int → Int → Option R) (hb : bytes l) (hl : l.length ≤ 4294967296) : p23 l K = K (nameS l).1 (nameS l).2.1 (nameS l).2.2 := by
  unfold p23
  rw [p35_eq l _ hb (by omega)]
  unfold nameS
  simp only [cond_ne, cond_dec, cond_inR, cond_not]
  by_cases he : (u32 l).2.2 = 0
  · obtain ⟨h1, h2, h3, h4⟩ := u32_ok hb he
    rw [if_pos he, if_neg (show ¬ (u32 l).2.2 ≠ 0 from fun h => h he)]
    generalize (u32 l).1 = n at *
    generalize (u32 l).2.1 = k at *
    have hrl : rng l k (l.length : Int) = l.drop k.toNat := by simp [rng]
    have hdl : (((l.drop k.toNat).length : Nat) : Int) = (l.length : Int) - k := by rw [List.length_drop]; omega
    rw [if_pos (by omega), hrl, hdl, w_u64 (n := (l.length : Int) - k) (by omega)]
    by_cases hn : n > (l.length : Int) - k
    · rw [if_pos hn, if_pos hn]
    · have hr0 : rng (l.drop k.toNat) 0 n = (l.drop k.toNat).take n.toNat := by simp [rng]
      rw [if_neg hn, if_neg hn, if_pos (by omega), hr0]
      have hbt : bytes ((l.drop k.toNat).take n.toNat) := bytes_take (bytes_drop hb _) _
      have hlt : (((l.drop k.toNat).take n.toNat).length : Int) = n := by rw [List.length_take, List.length_drop]; omega
      rw [p12_eq _ _ (by rw [u8s_len]; unfold most; omega), nums_u8s (bytes_u8 hbt)]
      cases hv : valid ((l.drop k.toNat).take n.toNat) with
      | false => rfl
      | true =>
        simp only [if_true, cond_true, Bool.true_eq_false, if_false]
        by_cases h64 : n > 64
        · rw [if_pos h64, if_pos h64]
        · rw [if_neg h64, if_neg h64, w_i64 (n := n) (by omega), w_i64 (by omega)]
  · rw [if_neg he, if_pos he]

/-- a name that is put -/
theorem p24_eq {R : Type} (b : List Int) (s : List UInt8) (K : List Int → Int → Option R) (hb : b.length ≤ 1000000) (hs : s.length ≤ 1000000) : p24 b s K =
    if valid (nums s) = false then K [] 2 else if s.length > 64 then K [] 4 else K (b ++ putN 9 s.length ++ nums s) 0 := by
  have hmost : most = 4294967296 := rfl
  unfold p24
  rw [p11_eq _ _ (by omega)]
  simp only [cond_dec, cond_not]
  cases hv : valid (nums s) with
  | false => rfl
  | true =>
    simp only [if_true, cond_true, Bool.true_eq_false, if_false]
    by_cases h64 : s.length > 64
    · rw [if_pos (by omega), if_pos h64]
    · have hp := putN_len 9 (s.length : Int)
      rw [if_neg (by omega), if_neg h64, w_u64 (by omega), p36_eq _ _ _ (by omega) (by omega) (by omega), if_pos (by omega)]
      show p38 [b ++ putN 9 (s.length : Int), nums s] _ = _
      rw [p38_eq _ _ _ (by rw [List.length_append, nums_len]; omega)]

theorem utf_names (b : List Int) (s : List UInt8) (hb : ∀ n ∈ b, IntKind.u8.has n) : p9 b s Yes = some () := by
  have hmost : most = 4294967296 := rfl
  have hby := u8_bytes hb
  unfold p9
  rw [p10_eq]
  simp only [cond_not, cond_true, cond_inR, cond_dec, cond_ne, cond_eq]
  rw [show (1000 : Int) = ((1000 : Nat) : Int) from rfl, minI_nat, minI_nat, rng_to, rng_to, if_pos (by omega), if_pos (by omega)]
  have h1 : (b.take (min b.length 1000)).length ≤ 1000 := by rw [List.length_take]; omega
  have h2 : (s.take (min s.length 1000)).length ≤ 1000 := by rw [List.length_take]; omega
  have h3 := bytes_take hby (min b.length 1000)
  generalize b.take (min b.length 1000) = x at *
  generalize s.take (min s.length 1000) = y at *
  rw [p22_eq x _ h3 (by omega), p23_eq x _ h3 (by omega), if_pos rfl, if_pos rfl, if_pos rfl, p24_eq x y _ (by omega) (by omega)]
  simp only [fun K => p12_eq (R := Unit) y K (by omega)]
  cases hv : valid (nums y) with
  | false => rfl
  | true =>
    simp only [if_true, cond_true, Bool.true_eq_false, if_false]
    by_cases h64 : y.length > 64
    · rw [if_pos h64, if_pos (by omega)]; rfl
    · have hp := putN_len 9 (y.length : Int)
      have hp25 : ∀ K : List Int → Option Unit, p25 x K = K x := fun K => by
        unfold p25
        simp only [cond_dec, List.replicate_zero, List.nil_append, List.length_nil, Nat.zero_add]
        rw [if_pos (by omega)]
      have hp26 : ∀ K : List Int → Option Unit, p26 y K = K (putN 9 y.length ++ nums y) := fun K => by
        unfold p26
        simp only [cond_dec]
        rw [w_u64 (by omega), p37_eq _ _ (by omega) (by omega), if_pos (by rw [nums_len]; omega)]
      rw [if_neg h64, if_neg (by omega)]
      simp only [hp25, hp26]
      rw [if_pos (by rw [List.length_append, nums_len]; omega), p21_eq _ _ _ (by simp only [List.length_append, nums_len]; omega), List.append_assoc, if_pos rfl]
      rfl

end Go.Trm.G1
