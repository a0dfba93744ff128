import Derived.Test.YthidebepdpkgkaaTrmPRefSect
import Derived.Test.YthidebepdpkgkaaTrmPJoin
import Derived.Test.YthidebepdpkgkaaTrmLift
set_option linter.unusedVariables false
set_option linter.unusedSimpArgs false
namespace Go.Trm.G1

theorem raw_take : ∀ (m : Nat) (l : List Int) (v last : Int) (k : Nat), raw m l = .ok v last k → ∀ n, raw m (l.take n) = if k ≤ n then .ok v last k else .short
  | 0, l, v, last, k, h, n => by cases h
  | m + 1, [], v, last, k, h, n => by cases h
  | m + 1, x :: r, v, last, k, h, n => by
    simp only [raw] at h
    cases n with
    | zero =>
      have hk : 1 ≤ k := by
        split at h
        · cases h; exact Nat.le_refl _
        · split at h
          · cases h; omega
          · rename_i he
            exact absurd h (he _ _ _)
      rw [if_neg (by omega)]
      rfl
    | succ n =>
      rw [List.take_succ_cons]
      simp only [raw]
      by_cases hx : x < 128
      · rw [if_pos hx] at h ⊢
        cases h
        rw [if_pos (by omega)]
      · rw [if_neg hx] at h ⊢
        cases hr : raw m r with
        | short => rw [hr] at h; cases h
        | form => rw [hr] at h; cases h
        | ok v' last' k' =>
          rw [hr] at h
          cases h
          rw [raw_take m r _ _ k' hr n]
          by_cases hk : k' ≤ n
          · rw [if_pos hk, if_pos (by omega)]
          · rw [if_neg hk, if_neg (by omega)]

theorem u32_take {l : List Int} (hb : bytes l) (h : (u32 l).2.2 = 0) (n : Nat) : u32 (l.take n) = if (u32 l).2.1.toNat ≤ n then u32 l else (0, 0, 1) := by
  unfold u32 at h ⊢
  cases hr : raw 5 l with
  | short => rw [hr] at h; cases h
  | form => rw [hr] at h; cases h
  | ok v last k =>
    rw [hr] at h
    rw [raw_take 5 l v last k hr n]
    simp only at h ⊢
    split at h
    · cases h
    · rename_i hq
      rw [if_neg hq]
      simp only [Int.toNat_natCast]
      by_cases hk : k ≤ n
      · rw [if_pos hk, if_pos hk]
        simp only
        rw [if_neg hq]
      · rw [if_neg hk, if_neg hk]

theorem splitS_take : ∀ (f : Nat) (l : List Int) (last : Int), l.length < f → bytes l → (splitS f l last).2 = 0 → ∀ n, n ≤ l.length →
    (splitS f (l.take n) last).1 = (splitS f l last).1.take (splitS f (l.take n) last).1.length ∧ ((splitS f (l.take n) last).2 = 0 ∨ ((splitS f (l.take n) last).2 = 1 ∧ n < l.length))
  | 0, l, last, h, _, _, _, _ => by omega
  | f + 1, [], last, _, _, _, n, _ => by
    rw [List.take_nil]
    exact ⟨rfl, .inl rfl⟩
  | f + 1, id :: r, last, hf, hb, h0, n, hn => by
    cases n with
    | zero => exact ⟨rfl, .inl rfl⟩
    | succ n =>
      have hbr := bytes_tail hb
      simp only [List.length_cons] at hf hn
      rw [List.take_succ_cons]
      unfold splitS at h0 ⊢
      by_cases hle : rk id ≠ 0 ∧ rk id ≤ last
      · rw [if_pos hle] at h0; cases h0
      · rw [if_neg hle] at h0
        rw [if_neg hle, if_neg hle]
        by_cases he : (u32 r).2.2 = 0
        · rw [if_neg (show ¬ (u32 r).2.2 ≠ 0 from fun h => h he)] at h0
          rw [if_neg (show ¬ (u32 r).2.2 ≠ 0 from fun h => h he), u32_take hbr he]
          obtain ⟨q1, q2, q3, q4⟩ := u32_ok hbr he
          by_cases hv : (u32 r).1 > (r.length : Int) - (u32 r).2.1
          · rw [if_pos hv] at h0; cases h0
          · rw [if_neg hv] at h0
            rw [if_neg hv]
            by_cases hk : (u32 r).2.1.toNat ≤ n
            · rw [if_pos hk, if_neg (show ¬ (u32 r).2.2 ≠ 0 from fun h => h he)]
              generalize (u32 r).1 = v at *
              generalize (u32 r).2.1 = k at *
              have hlt : (((r.take n).length : Nat) : Int) = n := by rw [List.length_take]; omega
              rw [hlt]
              by_cases hv2 : v > (n : Int) - k
              · rw [if_pos hv2]
                refine ⟨rfl, .inr ⟨rfl, ?_⟩⟩
                simp only [List.length_cons]
                omega
              · rw [if_neg hv2]
                have e1 : ((r.take n).drop k.toNat).take v.toNat = (r.drop k.toNat).take v.toNat := by
                  rw [List.drop_take, List.take_take]
                  congr 1
                  omega
                have e2 : (r.take n).drop (k.toNat + v.toNat) = (r.drop (k.toNat + v.toNat)).take (n - (k.toNat + v.toNat)) := List.drop_take
                obtain ⟨i1, i2⟩ := splitS_take f (r.drop (k.toNat + v.toNat)) (if rk id = 0 then last else rk id) (by rw [List.length_drop]; omega) (bytes_drop hbr _) h0 (n - (k.toNat + v.toNat)) (by rw [List.length_drop]; omega)
                rw [e1, e2]
                refine ⟨?_, ?_⟩
                · simp only [List.length_cons, List.take_succ_cons]
                  rw [← i1]
                · rcases i2 with i2 | ⟨i2, i3⟩
                  · exact .inl i2
                  · refine .inr ⟨i2, ?_⟩
                    rw [List.length_drop] at i3
                    simp only [List.length_cons]
                    omega
            · rw [if_neg hk]
              refine ⟨rfl, .inr ⟨rfl, ?_⟩⟩
              simp only [List.length_cons]
              omega
        · rw [if_pos he] at h0
          exact absurd h0 he

theorem hdrS_take : ∀ (M b : List Int) (n : Nat), hdrS M b = 0 → (hdrS M (b.take n) = 0 ∧ (M.length ≤ n)) ∨ (hdrS M (b.take n) = 1 ∧ n < M.length)
  | [], b, n, _ => .inl ⟨rfl, Nat.zero_le _⟩
  | m :: M, [], n, h => by cases h
  | m :: M, x :: b, 0, h => .inr ⟨rfl, by simp⟩
  | m :: M, x :: b, n + 1, h => by
    rw [List.take_succ_cons]
    unfold hdrS at h ⊢
    by_cases hx : x = m
    · rw [if_pos hx] at h
      rw [if_pos hx]
      rcases hdrS_take M b n h with ⟨h1, h2⟩ | ⟨h1, h2⟩
      · exact .inl ⟨h1, by simp only [List.length_cons]; omega⟩
      · exact .inr ⟨h1, by simp only [List.length_cons]; omega⟩
    · rw [if_neg hx] at h
      cases h

theorem splitL_take (f : Nat) (b : List Int) (hf : b.length < f) (hb : bytes b) (h0 : (splitL f b).2 = 0) (n : Nat) (hn : n ≤ b.length) :
    (splitL f (b.take n)).1 = (splitL f b).1.take (splitL f (b.take n)).1.length ∧ ((splitL f (b.take n)).2 = 0 ∨ ((splitL f (b.take n)).2 = 1 ∧ n < b.length)) := by
  unfold splitL at h0 ⊢
  by_cases h4 : b.length > 65536
  · rw [if_pos h4] at h0; cases h0
  · rw [if_neg h4] at h0
    rw [if_neg h4, if_neg (show ¬ (b.take n).length > 65536 by rw [List.length_take]; omega)]
    by_cases hh : hdrS magicL b = 0
    · rw [if_pos hh] at h0
      rw [if_pos hh]
      have h8 : 8 ≤ b.length := hdr_len hh
      rcases hdrS_take magicL b n hh with ⟨h1, h2⟩ | ⟨h1, h2⟩
      · have h2' : 8 ≤ n := h2
        rw [if_pos h1, List.drop_take]
        obtain ⟨i1, i2⟩ := splitS_take f (b.drop 8) 0 (by rw [List.length_drop]; omega) (bytes_drop hb 8) h0 (n - 8) (by rw [List.length_drop]; omega)
        refine ⟨i1, ?_⟩
        rcases i2 with i2 | ⟨i2, i3⟩
        · exact .inl i2
        · rw [List.length_drop] at i3
          exact .inr ⟨i2, by omega⟩
      · have h2' : n < 8 := h2
        rw [if_neg (by rw [h1]; decide), h1]
        exact ⟨rfl, .inr ⟨rfl, by omega⟩⟩
    · rw [if_neg hh] at h0
      exact absurd h0 hh

theorem sect_cut (b : List Int) (at_ : Int) (hb : ∀ n ∈ b, IntKind.u8.has n) : p_law07_SectCut b at_ Yes = some () := by
  have hby := u8_bytes hb
  unfold p_law07_SectCut
  rw [awake07_eq]
  simp only [cond_not, cond_true, cond_inR, cond_dec, cond_ne, cond_eq]
  rw [show (20000 : Int) = ((20000 : Nat) : Int) from rfl, minI_nat, rng_to, if_pos (by omega)]
  have h1 : (b.take (min b.length 20000)).length ≤ 20000 := by rw [List.length_take]; omega
  have h3 := bytes_take hby (min b.length 20000)
  generalize b.take (min b.length 20000) = x at *
  rw [split_eq x _ h3 (by omega)]
  by_cases he : (splitL fuel64 x).2 = 0
  · rw [if_pos he]
    by_cases ha : at_ < 0
    · rw [if_pos ha]
    · rw [if_neg ha]
      by_cases hal : at_ > (x.length : Int)
      · rw [if_pos hal]
      · obtain ⟨n, rfl⟩ := Int.eq_ofNat_of_zero_le (by omega : 0 ≤ at_)
        rw [if_neg hal, if_pos (by omega), rng_to, split_eq _ _ (bytes_take h3 n) (by rw [List.length_take]; omega)]
        obtain ⟨q1, q2⟩ := splitL_len fuel64 x
        obtain ⟨r1, r2⟩ := splitL_len fuel64 (x.take n)
        rw [List.length_take] at r1 r2
        obtain ⟨i1, i2⟩ := splitL_take fuel64 x (lt_fuel (by omega)) h3 he n (by omega)
        have hlen : (splitL fuel64 (x.take n)).1.length ≤ (splitL fuel64 x).1.length := by
          have := congrArg List.length i1
          rw [List.length_take] at this
          omega
        rw [if_neg (by omega), if_pos (by omega), rng_to, told_eq _ _ (by omega), ← i1, told_eq _ _ (by omega), same_eq _ _ _ (by omega) (fun s hs => by have := r2 s hs; omega), if_pos rfl]
        simp only [cond_true]
        rcases i2 with i2 | ⟨i2, i3⟩
        · rw [if_pos i2]
        · rw [if_neg (by rw [i2]; decide), if_pos i2]
          simp [i3]
  · rw [if_neg he]

end Go.Trm.G1
