import Derived.Test.YthidebepdpkgkabTrmQBits
import Derived.Test.YthidebepdpkgkabTrmQRead
set_option linter.unusedVariables false
set_option linter.unusedSimpArgs false
namespace Go.Trm.G1

/-! trammelref21.Read -/
abbrev C3 := (List Int) × (Int) × (Int) × Unit

theorem raw_put_le : ∀ (f m : Nat) (l : List Int) (v last : Int) (k : Nat), bytes l → raw m l = .ok v last k → (putN f v).length ≤ k := by
  intro f
  induction f with
  | zero =>
    intro m l v last k hb h
    obtain ⟨h1, _⟩ := raw_ok hb h
    simp [putN]; omega
  | succ f ih =>
    intro m l v last k hb h
    cases m with
    | zero => cases h
    | succ m =>
      cases l with
      | nil => cases h
      | cons x r =>
        have hx := bytes_head hb
        simp only [raw] at h
        split at h
        · rename_i hx1
          cases h
          simp [putN, hx1]
        · split at h
          · rename_i v' last' k' he
            cases h
            have := ih m r v' _ k' (bytes_tail hb) he
            unfold putN
            split
            · simp
            · have e1 : (x % 128 + 128 * v') / 128 = v' := by omega
              rw [e1, List.length_cons]
              omega
          · rename_i he
            exact absurd h (he _ _ _)

theorem u64_put_le {l : List Int} (hb : bytes l) (h : (u64S l).2.2 = 0) : ((putN 9 (u64S l).1).length : Int) ≤ (u64S l).2.1 := by
  unfold u64S at h ⊢
  cases hr : raw 10 l with
  | short => rw [hr] at h; cases h
  | form => rw [hr] at h; cases h
  | ok v last k =>
    rw [hr] at h
    have := raw_put_le 9 10 l v last k hb hr
    simp only at h ⊢
    split at h
    · cases h
    · rename_i hq
      rw [if_neg hq]
      simp only
      omega

theorem num_err {R : Type} (b : List Int) (at' e m : Int) (K : Int → C3 → Option R) (h : e ≠ 0) : p_ref21_cursor_num (b, (at', (e, ()))) m K = K 0 (b, (at', (e, ()))) := by
  unfold p_ref21_cursor_num
  simp only [cond_ne]
  rw [if_neg h]

theorem rng_drop (b : List Int) (k : Nat) : rng b k (b.length : Int) = b.drop k := by
  unfold rng
  rw [Int.toNat_natCast, Int.toNat_natCast, List.take_length]

theorem num_eq (b : List Int) (k : Nat) (m : Int) (hb : bytes b) (hl : b.length ≤ 1000000) (hk : k ≤ b.length) : match nP m (b.drop k) with
    | .error _ => ∃ e', e' ≠ 0 ∧ ∀ (R : Type) (K : Int → C3 → Option R), p_ref21_cursor_num (b, ((k : Int), ((0 : Int), ()))) m K = K 0 (b, ((k : Int), (e', ())))
    | .ok (n, r) => ∃ k' : Nat, k' ≤ b.length ∧ r = b.drop k' ∧ 0 ≤ n ∧ n ≤ m ∧ n ≤ 18446744073709551615 ∧ ∀ (R : Type) (K : Int → C3 → Option R), p_ref21_cursor_num (b, ((k : Int), ((0 : Int), ()))) m K = K n (b, ((k' : Int), ((0 : Int), ()))) := by
  have hbd := bytes_drop hb k
  have hld : (b.drop k).length ≤ 1000000 := by rw [List.length_drop]; omega
  have key : ∀ (R : Type) (K : Int → C3 → Option R), p_ref21_cursor_num (b, ((k : Int), ((0 : Int), ()))) m K =
      if (u64S (b.drop k)).2.2 = 0 then (if ((putN 9 (u64S (b.drop k)).1).length : Int) < (u64S (b.drop k)).2.1 then K 0 (b, ((k : Int), (2, ()))) else if (u64S (b.drop k)).1 > m then K 0 (b, ((k : Int), (4, ()))) else K (u64S (b.drop k)).1 (b, (IntKind.i64.wrap ((k : Int) + (u64S (b.drop k)).2.1), (0, ()))))
      else K 0 (b, ((k : Int), ((u64S (b.drop k)).2.2, ()))) := fun R K => by
    unfold p_ref21_cursor_num J_ref21_cursor_num_4 J_ref21_cursor_num_7 J_ref21_cursor_num_9
    simp only [cond_ne, if_true, cond_inR, cond_eq, cond_dec]
    rw [if_pos (by omega), rng_drop, p35_64 _ _ hbd (by omega)]
    by_cases he : (u64S (b.drop k)).2.2 = 0
    · obtain ⟨h1, h2, h3, h4⟩ := u64_in hbd he
      rw [if_pos he, if_pos he, p37_eq _ _ h1.1 h1.2]
      by_cases hs : ((putN 9 (u64S (b.drop k)).1).length : Int) < (u64S (b.drop k)).2.1
      · rw [if_pos hs, if_pos hs, if_neg (by decide), if_neg (by decide), if_pos he]
      · rw [if_neg hs, if_neg hs, if_pos he, he]
        by_cases hm : (u64S (b.drop k)).1 > m
        · rw [if_pos hm, if_pos hm, if_neg (by decide), if_pos rfl]
        · rw [if_neg hm, if_neg hm, if_pos rfl]
    · rw [if_neg he, if_neg he, if_neg he, if_neg he]
  unfold nP
  by_cases he : (u64S (b.drop k)).2.2 = 0
  · obtain ⟨h1, h2, h3, h4⟩ := u64_in hbd he
    have hle := u64_put_le hbd he
    by_cases hs : ((putN 9 (u64S (b.drop k)).1).length : Int) = (u64S (b.drop k)).2.1
    · have hu : uP (b.drop k) = .ok ((u64S (b.drop k)).1, (b.drop k).drop (u64S (b.drop k)).2.1.toNat) := by
        unfold uP
        rw [if_neg (by omega), if_neg (by omega)]
      rw [hu]
      simp only
      by_cases hm : (u64S (b.drop k)).1 > m
      · rw [if_pos hm]
        refine ⟨4, by decide, fun R K => ?_⟩
        rw [key, if_pos he, if_neg (by omega), if_pos hm]
      · rw [if_neg hm]
        rw [List.length_drop] at h4
        refine ⟨k + (u64S (b.drop k)).2.1.toNat, by omega, by rw [List.drop_drop], h1.1, by omega, h1.2, fun R K => ?_⟩
        rw [key, if_pos he, if_neg (by omega), if_neg hm, w_i64 (by omega)]
        congr 3
        omega
    · have hu : uP (b.drop k) = .error 2 := by
        unfold uP
        rw [if_neg (by omega), if_pos hs]
      rw [hu]
      refine ⟨2, by decide, fun R K => ?_⟩
      rw [key, if_pos he, if_pos (by omega)]
  · have hu : uP (b.drop k) = .error (u64S (b.drop k)).2.2 := by
      unfold uP
      rw [if_pos he]
    rw [hu]
    refine ⟨_, he, fun R K => ?_⟩
    rw [key, if_neg he]

theorem nP_max (b : List Int) (hb : bytes b) : nP 18446744073709551615 b = uP b := by
  unfold nP
  cases h : uP b with
  | error e => rfl
  | ok z =>
    obtain ⟨n, r⟩ := z
    obtain ⟨_, _, h3⟩ := u_rest hb h
    simp only
    rw [if_neg (by have := h3.2; omega)]

section
variable {R : Type}

theorem rf14e (kx : List Int → C3 → List Cl → Int → Cl → Int → Rw → Option R) (n : Nat) (b : List Int) (at' e : Int) (he : e ≠ 0) (f5 : List Cl) (f6 : Int) (f7 : Cl) (f8 : Int) (row : Rw) (j : Int) :
    loopN (B_ref21_Read_14 kx) (n + 1) ⟨b, (b, (at', (e, ()))), f5, f6, f7, f8, row, j⟩ = kx b (b, (at', (e, ()))) f5 f6 f7 f8 row := by
  rw [loop_succ]
  unfold B_ref21_Read_14
  simp only [cond_dec, cond_eq]
  rw [if_neg he]
  split <;> rfl

/-- one local -/
theorem rf14s (kx : List Int → C3 → List Cl → Int → Cl → Int → Rw → Option R) (n : Nat) (b : List Int) (k : Nat) (hb : bytes b) (hl : b.length ≤ 1000000) (hk : k ≤ b.length) (f5 : List Cl) (f6 : Int) (f7 : Cl) (f8 : Int) (row : Rw) (hr : row.length ≤ 1000) (j : Nat) (hj : j ≤ 1000) :
    match aP (b.drop k) with
    | .error _ => ∃ e', e' ≠ 0 ∧ ∃ (at' : Int) (a : Ab), loopN (B_ref21_Read_14 kx) (n + 1) ⟨b, (b, ((k : Int), ((0 : Int), ()))), f5, f6, f7, f8, row, ((j + 1 : Nat) : Int)⟩ = loopN (B_ref21_Read_14 kx) n ⟨b, (b, (at', (e', ()))), f5, f6, f7, f8, row ++ [a], j⟩
    | .ok (a, r) => ∃ k' : Nat, k' ≤ b.length ∧ r = b.drop k' ∧ loopN (B_ref21_Read_14 kx) (n + 1) ⟨b, (b, ((k : Int), ((0 : Int), ()))), f5, f6, f7, f8, row, ((j + 1 : Nat) : Int)⟩ = loopN (B_ref21_Read_14 kx) n ⟨b, (b, ((k' : Int), ((0 : Int), ()))), f5, f6, f7, f8, row ++ [a], j⟩ := by
  have hmost : most = 4294967296 := rfl
  have hj1 : IntKind.u64.wrap (((j + 1 : Nat) : Int) - 1) = (j : Int) := by rw [w_u64 (by omega)]; omega
  have hset : ∀ a : Ab, (List.replicate 1 (((0 : Int), ((0 : Int), ())), (((0 : Int), ((0 : Int), ())), ()))).set 0 a = [a] := fun _ => rfl
  have hlen : ∀ a : Ab, row.length + [a].length ≤ most := fun a => by simp only [List.length_cons, List.length_nil]; omega
  rw [loop_succ]
  generalize loopN (B_ref21_Read_14 kx) n = rec
  unfold B_ref21_Read_14
  simp only [cond_dec, cond_eq, cond_ne, if_true, hset, hj1, if_neg (show ¬ ((65 : Int) = 0) by decide)]
  have hlen2 : ∀ a : Ab, (row.length + [a].length ≤ most) = True := fun a => eq_true (hlen a)
  simp only [hlen2, if_true]
  rw [if_pos (show (((j + 1 : Nat) : Int) > 0) by omega)]
  unfold aP pM pS
  have n1 := num_eq b k 18446744073709551615 hb hl hk
  rw [nP_max _ (bytes_drop hb k)] at n1
  cases e1 : uP (b.drop k) with
  | error e =>
    rw [e1] at n1
    obtain ⟨e', he', hn1⟩ := n1
    refine ⟨e', he', k, ((0, (0, ())), ((IntKind.i64.wrap (Int.tmod 0 65), (0, ())), ())), ?_⟩
    rw [hn1, num_err _ _ _ _ _ he', num_err _ _ _ _ _ he', num_err _ _ _ _ _ he']
    simp only
    rw [if_neg he']
  | ok z =>
  obtain ⟨lo, r1⟩ := z
  rw [e1] at n1
  obtain ⟨k1, hk1, rfl, _, _, _, hn1⟩ := n1
  simp only [hn1]
  have n2 := num_eq b k1 18446744073709551615 hb hl hk1
  rw [nP_max _ (bytes_drop hb k1)] at n2
  cases e2 : uP (b.drop k1) with
  | error e =>
    rw [e2] at n2
    obtain ⟨e', he', hn2⟩ := n2
    refine ⟨e', he', k1, ((lo, (0, ())), ((IntKind.i64.wrap (Int.tmod 0 65), (0, ())), ())), ?_⟩
    rw [hn2, num_err _ _ _ _ _ he', num_err _ _ _ _ _ he']
    simp only
    rw [if_neg he']
  | ok z =>
  obtain ⟨hi, r2⟩ := z
  rw [e2] at n2
  obtain ⟨k2, hk2, rfl, _, _, _, hn2⟩ := n2
  simp only [hn2]
  have n3 := num_eq b k2 18446744073709551615 hb hl hk2
  rw [nP_max _ (bytes_drop hb k2)] at n3
  cases e3 : uP (b.drop k2) with
  | error e =>
    rw [e3] at n3
    obtain ⟨e', he', hn3⟩ := n3
    refine ⟨e', he', k2, ((lo, (hi, ())), ((IntKind.i64.wrap (Int.tmod 0 65), (0, ())), ())), ?_⟩
    rw [hn3, num_err _ _ _ _ _ he']
    simp only
    rw [if_neg he']
  | ok z =>
  obtain ⟨nb, r3⟩ := z
  rw [e3] at n3
  obtain ⟨k3, hk3, rfl, hnb0, _, hnb1, hn3⟩ := n3
  simp only [hn3]
  have n4 := num_eq b k3 18446744073709551615 hb hl hk3
  rw [nP_max _ (bytes_drop hb k3)] at n4
  cases e4 : uP (b.drop k3) with
  | error e =>
    rw [e4] at n4
    obtain ⟨e', he', hn4⟩ := n4
    refine ⟨e', he', k3, ((lo, (hi, ())), ((IntKind.i64.wrap (Int.tmod nb 65), (0, ())), ())), ?_⟩
    rw [hn4]
    simp only
    rw [if_neg he']
  | ok z =>
  obtain ⟨rr, r4⟩ := z
  rw [e4] at n4
  obtain ⟨k4, hk4, rfl, hr0, _, hr1, hn4⟩ := n4
  simp only [hn4]
  rw [if_pos trivial]
  unfold absG
  have hshr : 0 ≤ nb → nb ≤ 63 → shrI .u64 rr nb = rr / 2 ^ nb.toNat := fun h0 h1 => by
    unfold shrI
    have : min nb.toNat IntKind.u64.bits = nb.toNat := by show min _ 64 = _; omega
    rw [this]
    exact Int.fdiv_eq_ediv_of_nonneg _ (by
      rw [show ((2 : Int) ^ nb.toNat) = ((2 ^ nb.toNat : Nat) : Int) from (Int.natCast_pow 2 _).symm]
      exact Int.natCast_nonneg _)
  by_cases hr : rightB (absOf (lo, hi, nb, rr)) = true
  · rw [if_pos hr]
    have hn := right_n hr
    simp only [absOf] at hn
    have hnb : nb ≤ 64 := by
      by_cases h : nb ≤ 65
      · rw [minI_le h] at hn; omega
      · rw [minI_ge (by omega)] at hn; omega
    have hmin : minI nb 65 = nb := minI_le (by omega)
    have habs : absOf (lo, hi, nb, rr) = ((lo, (hi, ())), ((nb, (rr, ())), ())) := by simp only [absOf, hmin]
    rw [habs] at hr
    have hmod : IntKind.i64.wrap (Int.tmod nb 65) = nb := by
      rw [Int.tmod_eq_emod_of_nonneg hnb0, w_i64 (by omega)]
      omega
    unfold rightB at hr
    simp only [Bool.and_eq_true, decide_eq_true_eq, Bool.or_eq_true, beq_iff_eq] at hr
    obtain ⟨q1, q2, q3, q4⟩ := hr
    refine ⟨k4, hk4, rfl, ?_⟩
    rw [if_neg (show ¬ lo > hi by omega), if_neg (show ¬ nb > 64 by omega), habs, hmod]
    by_cases h64 : nb < 64
    · rw [if_pos h64, if_pos hnb0, hshr hnb0 (by omega)]
      rcases q4 with q4 | q4
      · omega
      · rw [if_pos q4]
    · rw [if_neg h64]
  · rw [if_neg hr]
    refine ⟨2, by decide, k4, ((lo, (hi, ())), ((IntKind.i64.wrap (Int.tmod nb 65), (rr, ())), ())), ?_⟩
    by_cases c1 : lo > hi
    · rw [if_pos c1]
    · rw [if_neg c1]
      by_cases c2 : nb > 64
      · rw [if_pos c2]
      · rw [if_neg c2]
        have hmin : minI nb 65 = nb := minI_le (by omega)
        have h64 : nb < 64 ∧ ¬ rr / 2 ^ nb.toNat = 0 := by
          have habs : absOf (lo, hi, nb, rr) = ((lo, (hi, ())), ((nb, (rr, ())), ())) := by simp only [absOf, hmin]
          rw [habs] at hr
          unfold rightB at hr
          simp only [Bool.and_eq_true, decide_eq_true_eq, Bool.or_eq_true, beq_iff_eq] at hr
          constructor
          · by_cases h : nb < 64
            · exact h
            · exact absurd ⟨by omega, hnb0, by omega, .inl (by omega)⟩ hr
          · intro hz
            exact hr ⟨by omega, hnb0, by omega, .inr hz⟩
        rw [if_pos h64.1, if_pos hnb0, hshr hnb0 (by omega), if_neg h64.2]

theorem rf14 (kx : List Int → C3 → List Cl → Int → Cl → Int → Rw → Option R) (b : List Int) (hb : bytes b) (hl : b.length ≤ 1000000) (f5 : List Cl) (f6 : Int) (f7 : Cl) (f8 : Int) : ∀ (j n k : Nat) (row : Rw), k ≤ b.length → j < n → row.length + j ≤ 100 →
    match pL aP j (b.drop k) with
    | .error _ => ∃ e', e' ≠ 0 ∧ ∃ (at' : Int) (row' : Rw), loopN (B_ref21_Read_14 kx) n ⟨b, (b, ((k : Int), ((0 : Int), ()))), f5, f6, f7, f8, row, j⟩ = kx b (b, (at', (e', ()))) f5 f6 f7 f8 row'
    | .ok (l, r) => ∃ k' : Nat, k' ≤ b.length ∧ r = b.drop k' ∧ loopN (B_ref21_Read_14 kx) n ⟨b, (b, ((k : Int), ((0 : Int), ()))), f5, f6, f7, f8, row, j⟩ = kx b (b, ((k' : Int), ((0 : Int), ()))) f5 f6 f7 f8 (row ++ l) := by
  intro j
  induction j with
  | zero =>
    intro n k row hk hn hr
    obtain ⟨n, rfl⟩ : ∃ m, n = m + 1 := ⟨n - 1, by omega⟩
    refine ⟨k, hk, rfl, ?_⟩
    rw [loop_succ]
    unfold B_ref21_Read_14
    simp only [cond_dec]
    rw [if_neg (by omega), List.append_nil]
  | succ j ih =>
    intro n k row hk hn hr
    obtain ⟨n, rfl⟩ : ∃ m, n = m + 1 := ⟨n - 1, by omega⟩
    have hs := rf14s kx n b k hb hl hk f5 f6 f7 f8 row (by omega) j (by omega)
    simp only [pL]
    cases e1 : aP (b.drop k) with
    | error e =>
      rw [e1] at hs
      obtain ⟨e', he', at', a, hh⟩ := hs
      refine ⟨e', he', at', row ++ [a], ?_⟩
      obtain ⟨m, rfl⟩ : ∃ m, n = m + 1 := ⟨n - 1, by omega⟩
      rw [hh, rf14e kx m b at' e' he']
    | ok z =>
      obtain ⟨a, r1⟩ := z
      rw [e1] at hs
      obtain ⟨k1, hk1, rfl, hh⟩ := hs
      rw [hh]
      have := ih n k1 (row ++ [a]) hk1 (by omega) (by simp only [List.length_append, List.length_cons, List.length_nil]; omega)
      simp only
      cases e2 : pL aP j (b.drop k1) with
      | error e => rw [e2] at this; exact this
      | ok z =>
        obtain ⟨l, r⟩ := z
        rw [e2] at this
        obtain ⟨k2, q1, q2, q3⟩ := this
        refine ⟨k2, q1, q2, ?_⟩
        rw [q3, List.append_assoc]
        rfl

theorem rf10e (kx : List Int → C3 → List Cl → Int → Cl → Option R) (n : Nat) (b : List Int) (at' e : Int) (he : e ≠ 0) (f5 : List Cl) (f6 : Int) (f7 : Cl) (j : Int) :
    loopN (B_ref21_Read_10 kx) (n + 1) ⟨b, (b, (at', (e, ()))), f5, f6, f7, j⟩ = kx b (b, (at', (e, ()))) f5 f6 f7 := by
  rw [loop_succ]
  unfold B_ref21_Read_10
  simp only [cond_dec, cond_eq]
  rw [if_neg he]
  split <;> rfl

theorem rf10 (kx : List Int → C3 → List Cl → Int → Cl → Option R) (b : List Int) (hb : bytes b) (hl : b.length ≤ 1000000) (f5 : List Cl) (f6 : Int) : ∀ (j n k : Nat) (L : List Rw), k ≤ b.length → j < n → L.length + j ≤ 3000 →
    match pL rP j (b.drop k) with
    | .error _ => ∃ e', e' ≠ 0 ∧ ∃ (at' : Int) (L' : Cl), loopN (B_ref21_Read_10 kx) n ⟨b, (b, ((k : Int), ((0 : Int), ()))), f5, f6, (L, ()), j⟩ = kx b (b, (at', (e', ()))) f5 f6 L'
    | .ok (l, r) => ∃ k' : Nat, k' ≤ b.length ∧ r = b.drop k' ∧ loopN (B_ref21_Read_10 kx) n ⟨b, (b, ((k : Int), ((0 : Int), ()))), f5, f6, (L, ()), j⟩ = kx b (b, ((k' : Int), ((0 : Int), ()))) f5 f6 (L ++ l, ()) := by
  intro j
  induction j with
  | zero =>
    intro n k L hk hn hr
    obtain ⟨n, rfl⟩ : ∃ m, n = m + 1 := ⟨n - 1, by omega⟩
    refine ⟨k, hk, rfl, ?_⟩
    rw [loop_succ]
    unfold B_ref21_Read_10
    simp only [cond_dec]
    rw [if_neg (by omega), List.append_nil]
  | succ j ih =>
    intro n k L hk hn hr
    have hmost : most = 4294967296 := rfl
    obtain ⟨n, rfl⟩ : ∃ m, n = m + 1 := ⟨n - 1, by omega⟩
    have hc := num_eq b k 64 hb hl hk
    have hj : IntKind.u64.wrap (((j + 1 : Nat) : Int) - 1) = (j : Int) := by rw [w_u64 (by omega)]; omega
    have hset : ∀ a : Rw, (List.replicate 1 ([] : Rw)).set 0 a = [a] := fun _ => rfl
    have hlen : ∀ a : Rw, L.length + [a].length ≤ most := fun a => by simp only [List.length_cons, List.length_nil]; omega
    simp only [pL]
    have herr : ∀ (e : Int), e ≠ 0 → ∀ (at' : Int) (row' : Rw), (if L.length + [row'].length ≤ most then (loopN (B_ref21_Read_10 kx) n ⟨b, (b, (at', (e, ()))), f5, f6, (L ++ [row'], ()), (j : Int)⟩) else none) = kx b (b, (at', (e, ()))) f5 f6 (L ++ [row'], ()) := fun e he at' row' => by
      obtain ⟨m, rfl⟩ : ∃ m, n = m + 1 := ⟨n - 1, by omega⟩
      rw [if_pos (hlen _), rf10e kx m b at' e he]
    have hrw : rP (b.drop k) = match nP 64 (b.drop k) with
        | .error e => .error e
        | .ok (n, r) => pL aP n.toNat r := pN_n 64 aP (b.drop k)
    rw [hrw]
    have hstep : loopN (B_ref21_Read_10 kx) (n + 1) ⟨b, (b, ((k : Int), ((0 : Int), ()))), f5, f6, (L, ()), ((j + 1 : Nat) : Int)⟩ =
        p_ref21_cursor_num (b, ((k : Int), ((0 : Int), ()))) 64 fun r3 b4 => loopN (B_ref21_Read_14 fun w5 w6 w7 w8 w9 w10 w11 =>
          if w9.1.length + [w11].length ≤ most then (loopN (B_ref21_Read_10 kx) n ⟨w5, w6, w7, w8, (w9.1 ++ [w11], w9.2), IntKind.u64.wrap (w10 - (1 : Int))⟩) else none) fuel64 ⟨b, b4, f5, f6, (L, ()), ((j + 1 : Nat) : Int), [], r3⟩ := by
      rw [loop_succ]
      generalize loopN (B_ref21_Read_10 kx) n = rec
      unfold B_ref21_Read_10 fuel_ref21_Read_14
      simp only [cond_dec, cond_eq, if_true, hset]
      rw [if_pos (by omega)]
    rw [hstep]
    cases e1 : nP 64 (b.drop k) with
    | error e =>
      rw [e1] at hc
      obtain ⟨e', he', hk'⟩ := hc
      simp only
      rw [hk']
      refine ⟨e', he', k, (L ++ [[]], ()), ?_⟩
      obtain ⟨m, hm⟩ := fuel_add 1 (by omega)
      rw [hm, rf14e _ m b k e' he', hj]
      exact herr e' he' k []
    | ok z =>
      obtain ⟨q, b1⟩ := z
      rw [e1] at hc
      obtain ⟨k1, hk1, rfl, hq0, hq1, _, hk'⟩ := hc
      simp only
      rw [hk']
      obtain ⟨qn, rfl⟩ := Int.eq_ofNat_of_zero_le hq0
      have h14 := rf14 (fun w5 w6 w7 w8 w9 w10 w11 =>
          if w9.1.length + [w11].length ≤ most then (loopN (B_ref21_Read_10 kx) n ⟨w5, w6, w7, w8, (w9.1 ++ [w11], w9.2), IntKind.u64.wrap (w10 - (1 : Int))⟩) else none) b hb hl f5 f6 (L, ()) ((j + 1 : Nat) : Int) qn fuel64 k1 [] hk1 (lt_fuel (by omega)) (by simp; omega)
      rw [Int.toNat_natCast]
      cases e2 : pL aP qn (b.drop k1) with
      | error e =>
        rw [e2] at h14
        obtain ⟨e', he', at', row', hh⟩ := h14
        simp only
        refine ⟨e', he', at', (L ++ [row'], ()), ?_⟩
        rw [hh, hj]
        exact herr e' he' at' row'
      | ok z =>
        obtain ⟨row, b2⟩ := z
        rw [e2] at h14
        obtain ⟨k2, hk2, rfl, hh⟩ := h14
        simp only
        rw [List.nil_append, if_pos (hlen row), hj] at hh
        rw [hh]
        have := ih n k2 (L ++ [row]) hk2 (by omega) (by simp only [List.length_append, List.length_cons, List.length_nil]; omega)
        cases e3 : pL rP j (b.drop k2) with
        | error e => rw [e3] at this; exact this
        | ok z =>
          obtain ⟨l, r⟩ := z
          rw [e3] at this
          obtain ⟨k3, q1, q2, q3⟩ := this
          refine ⟨k3, q1, q2, ?_⟩
          rw [q3, List.append_assoc]
          rfl

theorem rf6e (kx : List Int → C3 → List Cl → Option R) (n : Nat) (b : List Int) (at' e : Int) (he : e ≠ 0) (f5 : List Cl) (j : Int) :
    loopN (B_ref21_Read_6 kx) (n + 1) ⟨b, (b, (at', (e, ()))), f5, j⟩ = kx b (b, (at', (e, ()))) f5 := by
  rw [loop_succ]
  unfold B_ref21_Read_6
  simp only [cond_dec, cond_eq]
  rw [if_neg he]
  split <;> rfl

theorem cP_n (b : List Int) : cP b = match nP 2000 b with
    | .error e => .error e
    | .ok (n, r) => match pL rP n.toNat r with
      | .error e => .error e
      | .ok (l, r) => .ok ((l, ()), r) := by
  unfold cP pM
  rw [pN_n]
  cases nP 2000 b with
  | error e => rfl
  | ok z =>
    simp only
    cases pL rP z.1.toNat z.2 <;> rfl

theorem rf6 (kx : List Int → C3 → List Cl → Option R) (b : List Int) (hb : bytes b) (hl : b.length ≤ 1000000) : ∀ (j n k : Nat) (L : List Cl), k ≤ b.length → j < n → L.length + j ≤ 100 →
    match pL cP j (b.drop k) with
    | .error _ => ∃ e', e' ≠ 0 ∧ ∃ (at' : Int) (L' : List Cl), loopN (B_ref21_Read_6 kx) n ⟨b, (b, ((k : Int), ((0 : Int), ()))), L, j⟩ = kx b (b, (at', (e', ()))) L'
    | .ok (l, r) => ∃ k' : Nat, k' ≤ b.length ∧ r = b.drop k' ∧ loopN (B_ref21_Read_6 kx) n ⟨b, (b, ((k : Int), ((0 : Int), ()))), L, j⟩ = kx b (b, ((k' : Int), ((0 : Int), ()))) (L ++ l) := by
  intro j
  induction j with
  | zero =>
    intro n k L hk hn hr
    obtain ⟨n, rfl⟩ : ∃ m, n = m + 1 := ⟨n - 1, by omega⟩
    refine ⟨k, hk, rfl, ?_⟩
    rw [loop_succ]
    unfold B_ref21_Read_6
    simp only [cond_dec]
    rw [if_neg (by omega), List.append_nil]
  | succ j ih =>
    intro n k L hk hn hr
    have hmost : most = 4294967296 := rfl
    obtain ⟨n, rfl⟩ : ∃ m, n = m + 1 := ⟨n - 1, by omega⟩
    have hc := num_eq b k 2000 hb hl hk
    have hj : IntKind.u64.wrap (((j + 1 : Nat) : Int) - 1) = (j : Int) := by rw [w_u64 (by omega)]; omega
    have hset : ∀ a : Cl, (List.replicate 1 (([] : List Rw), ())).set 0 a = [a] := fun _ => rfl
    have hlen : ∀ a : Cl, L.length + [a].length ≤ most := fun a => by simp only [List.length_cons, List.length_nil]; omega
    simp only [pL]
    have herr : ∀ (e : Int), e ≠ 0 → ∀ (at' : Int) (row' : Cl), (if L.length + [row'].length ≤ most then (loopN (B_ref21_Read_6 kx) n ⟨b, (b, (at', (e, ()))), L ++ [row'], (j : Int)⟩) else none) = kx b (b, (at', (e, ()))) (L ++ [row']) := fun e he at' row' => by
      obtain ⟨m, rfl⟩ : ∃ m, n = m + 1 := ⟨n - 1, by omega⟩
      rw [if_pos (hlen _), rf6e kx m b at' e he]
    rw [cP_n]
    have hstep : loopN (B_ref21_Read_6 kx) (n + 1) ⟨b, (b, ((k : Int), ((0 : Int), ()))), L, ((j + 1 : Nat) : Int)⟩ =
        p_ref21_cursor_num (b, ((k : Int), ((0 : Int), ()))) 2000 fun r3 b4 => loopN (B_ref21_Read_10 fun w5 w6 w7 w8 w9 =>
          if w7.length + [w9].length ≤ most then (loopN (B_ref21_Read_6 kx) n ⟨w5, w6, w7 ++ [w9], IntKind.u64.wrap (w8 - (1 : Int))⟩) else none) fuel64 ⟨b, b4, L, ((j + 1 : Nat) : Int), ([], ()), r3⟩ := by
      rw [loop_succ]
      generalize loopN (B_ref21_Read_6 kx) n = rec
      unfold B_ref21_Read_6 fuel_ref21_Read_10
      simp only [cond_dec, cond_eq, if_true, hset]
      rw [if_pos (by omega)]
    rw [hstep]
    cases e1 : nP 2000 (b.drop k) with
    | error e =>
      rw [e1] at hc
      obtain ⟨e', he', hk'⟩ := hc
      simp only
      rw [hk']
      refine ⟨e', he', k, L ++ [([], ())], ?_⟩
      obtain ⟨m, hm⟩ := fuel_add 1 (by omega)
      rw [hm, rf10e _ m b k e' he', hj]
      exact herr e' he' k ([], ())
    | ok z =>
      obtain ⟨q, b1⟩ := z
      rw [e1] at hc
      obtain ⟨k1, hk1, rfl, hq0, hq1, _, hk'⟩ := hc
      simp only
      rw [hk']
      obtain ⟨qn, rfl⟩ := Int.eq_ofNat_of_zero_le hq0
      have h10 := rf10 (fun w5 w6 w7 w8 w9 =>
          if w7.length + [w9].length ≤ most then (loopN (B_ref21_Read_6 kx) n ⟨w5, w6, w7 ++ [w9], IntKind.u64.wrap (w8 - (1 : Int))⟩) else none) b hb hl L ((j + 1 : Nat) : Int) qn fuel64 k1 [] hk1 (lt_fuel (by omega)) (by simp; omega)
      rw [Int.toNat_natCast]
      cases e2 : pL rP qn (b.drop k1) with
      | error e =>
        rw [e2] at h10
        obtain ⟨e', he', at', row', hh⟩ := h10
        simp only
        refine ⟨e', he', at', L ++ [row'], ?_⟩
        rw [hh, hj]
        exact herr e' he' at' row'
      | ok z =>
        obtain ⟨row, b2⟩ := z
        rw [e2] at h10
        obtain ⟨k2, hk2, rfl, hh⟩ := h10
        simp only
        rw [List.nil_append, if_pos (hlen _), hj] at hh
        rw [hh]
        have := ih n k2 (L ++ [(row, ())]) hk2 (by omega) (by simp only [List.length_append, List.length_cons, List.length_nil]; omega)
        cases e3 : pL cP j (b.drop k2) with
        | error e => rw [e3] at this; exact this
        | ok z =>
          obtain ⟨l, r⟩ := z
          rw [e3] at this
          obtain ⟨k3, q1, q2, q3⟩ := this
          refine ⟨k3, q1, q2, ?_⟩
          rw [q3, List.append_assoc]
          rfl

theorem ref_read (b : List Int) (K : List Cl → Int → Option R) (hb : bytes b) : ((readS b).2 = 0 ∧ p_ref21_Read b K = K (readS b).1 0) ∨ ((readS b).2 ≠ 0 ∧ ∃ e', e' ≠ 0 ∧ p_ref21_Read b K = K [] e') := by
  unfold p_ref21_Read fuel_ref21_Read_6 readS
  simp only [cond_dec]
  by_cases h : b.length > 65536
  · rw [if_pos h, if_pos (show (b.length : Int) > 65536 by omega)]
    exact .inr ⟨by decide, 4, by decide, rfl⟩
  · rw [if_neg h, if_neg (show ¬ (b.length : Int) > 65536 by omega)]
    have hc := num_eq b 0 64 hb (by omega) (by omega)
    have hrw : mP b = match nP 64 b with
        | .error e => .error e
        | .ok (n, r) => pL cP n.toNat r := pN_n 64 cP b
    rw [List.drop_zero] at hc
    simp only [cond_eq, cond_ne]
    cases e1 : nP 64 b with
    | error e =>
      rw [e1] at hc
      obtain ⟨e', he', hk⟩ := hc
      have hne : mP b = .error e := by rw [hrw, e1]
      refine .inr ⟨by rw [hne]; exact mC.bad _ _ hne, e', he', (hk R _).trans ?_⟩
      obtain ⟨m, hm⟩ := fuel_add 1 (by omega)
      rw [hm, rf6e _ m b _ e' he']
      simp only
      rw [if_neg he', if_neg he']
    | ok z =>
      obtain ⟨q, b1⟩ := z
      rw [e1] at hc
      obtain ⟨k1, hk1, rfl, hq0, hq1, _, hk⟩ := hc
      obtain ⟨qn, rfl⟩ := Int.eq_ofNat_of_zero_le hq0
      have hk0 : ∀ K : Int → C3 → Option R, p_ref21_cursor_num (b, ((0 : Int), ((0 : Int), ()))) 64 K = K (qn : Int) (b, ((k1 : Int), ((0 : Int), ()))) := fun K => hk R K
      rw [hk0]
      have h6 := fun kx => rf6 (R := R) kx b hb (by omega) qn fuel64 k1 [] hk1 (lt_fuel (by omega)) (by simp; omega)
      have hm2 : mP b = pL cP qn (b.drop k1) := by rw [hrw, e1]; simp
      rw [hm2]
      cases e2 : pL cP qn (b.drop k1) with
      | error e =>
        rw [e2] at h6
        refine .inr ⟨mC.bad b e (by rw [hm2, e2]), ?_⟩
        have aux : ∀ (kx : List Int → C3 → List Cl → Option R), (∀ b' at' e' L', e' ≠ 0 → kx b' (b, (at', (e', ()))) L' = K [] e') → ∃ e', e' ≠ 0 ∧ loopN (B_ref21_Read_6 kx) fuel64 ⟨b, (b, ((k1 : Int), ((0 : Int), ()))), [], (qn : Int)⟩ = K [] e' := fun kx hkx => by
          obtain ⟨e', he', at', L', hh⟩ := h6 kx
          exact ⟨e', he', by rw [hh, hkx _ _ _ _ he']⟩
        exact aux _ fun b' at' e' L' he' => by simp only; rw [if_neg he', if_neg he']
      | ok z =>
        obtain ⟨l, r⟩ := z
        rw [e2] at h6
        have h7 : ∃ k' : Nat, k' ≤ b.length ∧ r = b.drop k' ∧ ∀ kx, loopN (B_ref21_Read_6 (R := R) kx) fuel64 ⟨b, (b, ((k1 : Int), ((0 : Int), ()))), [], (qn : Int)⟩ = kx b (b, ((k' : Int), ((0 : Int), ()))) l := by
          refine ⟨b.length - r.length, by omega, ?_, fun kx => ?_⟩
          · obtain ⟨k', g1, g2, _⟩ := h6 fun _ _ _ => none
            rw [g2, List.length_drop]
            congr 1
            omega
          · obtain ⟨k', g1, g2, g3⟩ := h6 kx
            have : k' = b.length - r.length := by rw [g2, List.length_drop]; omega
            rw [← this]
            exact g3
        obtain ⟨k', g1, g2, g3⟩ := h7
        simp only [g3, if_true]
        cases r with
        | nil =>
          have : b.length ≤ k' := by
            have := congrArg List.length g2
            rw [List.length_drop, List.length_nil] at this
            omega
          exact .inl ⟨rfl, by rw [if_neg (by omega)]; rfl⟩
        | cons x r =>
          have : k' < b.length := by
            have := congrArg List.length g2
            rw [List.length_drop, List.length_cons] at this
            omega
          exact .inr ⟨by simp, 2, by decide, by rw [if_pos (by omega), if_neg (by decide)]⟩
end
end Go.Trm.G1
