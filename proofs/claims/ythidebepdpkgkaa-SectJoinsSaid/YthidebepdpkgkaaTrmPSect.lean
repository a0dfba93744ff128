import Derived.Test.YthidebepdpkgkaaTrmPLeb
set_option linter.unusedVariables false
set_option linter.unusedSimpArgs false
namespace Go.Trm.G1

abbrev Sect := Int × List Int × Unit

/-- a section's place in the order -/
def rk (id : Int) : Int := if id = 0 then 0 else if 1 ≤ id ∧ id ≤ 9 then id else if id = 12 then 10 else if id = 10 then 11 else if id = 11 then 12 else -1

def ix {R : Type} (kr : Int → Option R) (ke : Option R) (v : Int) : Nat → List Int → Option R
  | _, [] => ke
  | i, x :: r => if v = x then kr i else ix kr ke v (i + 1) r

theorem l44 {R : Type} (kr : Int → Option R) (ke : Option R) (l : List Int) (v : Int) (hl : l.length ≤ 1000) : ∀ (n i : Nat), i ≤ l.length → l.length - i < n →
    loopN (B_slices_IndexInt_2 kr ke) n ⟨l, v, l.length, i⟩ = ix kr ke v i (l.drop i) := by
  intro n
  induction n with
  | zero => intro i _ h; omega
  | succ n ih =>
    intro i hi hn
    rw [loop_succ]
    generalize loopN (B_slices_IndexInt_2 kr ke) n = rec at ih ⊢
    unfold B_slices_IndexInt_2
    simp only [cond_dec, cond_inB, cond_eq]
    by_cases h : i = l.length
    · rw [if_neg (by omega), List.drop_eq_nil_of_le (by omega)]
      rfl
    · have hi' : i < l.length := by omega
      have hg : l.getD i 0 = l[i] := by simp [List.getD, hi']
      rw [if_pos (by omega), if_pos (by omega), Int.toNat_natCast, hg, List.drop_eq_getElem_cons hi', w_i64 (by omega), show ((i : Int) + 1) = ((i + 1 : Nat) : Int) by omega, ih (i + 1) (by omega) (by omega)]
      rfl

theorem p44_eq {R : Type} (l : List Int) (v : Int) (K : Int → Option R) (hl : l.length ≤ 1000) : p_slices_IndexInt l v K = ix K (K (-1)) v 0 l := by
  unfold p_slices_IndexInt
  have := l44 K (K (-1)) l v hl fuel64 0 (by omega) (lt_fuel (by omega))
  rw [List.drop_zero] at this
  exact this

theorem rank_eq {R : Type} (id : Int) (K : Int → Option R) : p_sect_rank id K = K (rk id) := by
  unfold p_sect_rank
  simp only [cond_eq]
  by_cases h0 : id = 0
  · rw [if_pos h0, h0]; rfl
  · rw [if_neg h0]
    show p_slices_IndexInt [1, 2, 3, 4, 5, 6, 7, 8, 9, 12, 10, 11] id _ = _
    rw [p44_eq _ _ _ (by decide)]
    simp only [ix]
    by_cases h1 : id = 1
    · rw [if_pos h1, h1]; rfl
    by_cases h2 : id = 2
    · rw [if_neg h1, if_pos h2, h2]; rfl
    by_cases h3 : id = 3
    · rw [if_neg h1, if_neg h2, if_pos h3, h3]; rfl
    by_cases h4 : id = 4
    · rw [if_neg h1, if_neg h2, if_neg h3, if_pos h4, h4]; rfl
    by_cases h5 : id = 5
    · rw [if_neg h1, if_neg h2, if_neg h3, if_neg h4, if_pos h5, h5]; rfl
    by_cases h6 : id = 6
    · rw [if_neg h1, if_neg h2, if_neg h3, if_neg h4, if_neg h5, if_pos h6, h6]; rfl
    by_cases h7 : id = 7
    · rw [if_neg h1, if_neg h2, if_neg h3, if_neg h4, if_neg h5, if_neg h6, if_pos h7, h7]; rfl
    by_cases h8 : id = 8
    · rw [if_neg h1, if_neg h2, if_neg h3, if_neg h4, if_neg h5, if_neg h6, if_neg h7, if_pos h8, h8]; rfl
    by_cases h9 : id = 9
    · rw [if_neg h1, if_neg h2, if_neg h3, if_neg h4, if_neg h5, if_neg h6, if_neg h7, if_neg h8, if_pos h9, h9]; rfl
    by_cases h12 : id = 12
    · rw [if_neg h1, if_neg h2, if_neg h3, if_neg h4, if_neg h5, if_neg h6, if_neg h7, if_neg h8, if_neg h9, if_pos h12, h12]; rfl
    by_cases h10 : id = 10
    · rw [if_neg h1, if_neg h2, if_neg h3, if_neg h4, if_neg h5, if_neg h6, if_neg h7, if_neg h8, if_neg h9, if_neg h12, if_pos h10, h10]; rfl
    by_cases h11 : id = 11
    · rw [if_neg h1, if_neg h2, if_neg h3, if_neg h4, if_neg h5, if_neg h6, if_neg h7, if_neg h8, if_neg h9, if_neg h12, if_neg h10, if_pos h11, h11]; rfl
    rw [if_neg h1, if_neg h2, if_neg h3, if_neg h4, if_neg h5, if_neg h6, if_neg h7, if_neg h8, if_neg h9, if_neg h12, if_neg h10, if_neg h11]
    unfold rk
    rw [if_neg h0, if_neg (by omega), if_neg h12, if_neg h10, if_neg h11]
    rfl

theorem next_eq {R : Type} (last id : Int) (K : Bool → Int × Unit → Option R) : p_sect_order_next (last, ()) id K = if rk id = 0 then K true (last, ()) else if rk id ≤ last then K false (last, ()) else K true (rk id, ()) := by
  unfold p_sect_order_next
  rw [rank_eq]
  simp only [cond_eq, cond_dec]

theorem rng_end {α : Type} (l : List α) (a : Int) : rng l a (l.length : Int) = l.drop a.toNat := by simp [rng]
theorem rng_zero {α : Type} (l : List α) (a : Int) : rng l 0 a = l.take a.toNat := by simp [rng]

/-- the sections of bytes; the error -/
def splitS : Nat → List Int → Int → List Sect × Int
  | 0, _, _ => ([], 0)
  | _ + 1, [], _ => ([], 0)
  | n + 1, id :: r, last =>
    if rk id ≠ 0 ∧ rk id ≤ last then ([], 2)
    else if (u32 r).2.2 ≠ 0 then ([], (u32 r).2.2)
    else if (u32 r).1 > r.length - (u32 r).2.1 then ([], 1)
    else ((id, ((r.drop (u32 r).2.1.toNat).take (u32 r).1.toNat, ())) :: (splitS n (r.drop ((u32 r).2.1.toNat + (u32 r).1.toNat)) (if rk id = 0 then last else rk id)).1,
      (splitS n (r.drop ((u32 r).2.1.toNat + (u32 r).1.toNat)) (if rk id = 0 then last else rk id)).2)

def endS {R : Type} (kr : List Sect → Int → Option R) (ke : List Sect → Option R) (out : List Sect) (t : List Sect × Int) : Option R := if t.2 = 0 then ke (out ++ t.1) else kr (out ++ t.1) t.2

theorem u32_err {l : List Int} (h : (u32 l).2.2 ≠ 0) : (u32 l).2.2 = 1 ∨ (u32 l).2.2 = 2 := by
  unfold u32 at h ⊢
  cases hr : raw 5 l with
  | short => exact .inl rfl
  | form => exact .inr rfl
  | ok v last k =>
    rw [hr] at h
    simp only at h ⊢
    split
    · exact .inr rfl
    · rename_i hq
      rw [if_neg hq] at h
      exact absurd rfl h

theorem lsp {R : Type} (kr : List Sect → Int → Option R) (ke : List Sect → Option R) : ∀ (n : Nat) (l : List Int) (out : List Sect) (last : Int), l.length < n → bytes l → out.length + l.length ≤ 100000 →
    loopN (B_sect_Split_14 kr ke) n ⟨l, out, (last, ())⟩ = endS kr ke out (splitS n l last) := by
  intro n
  induction n with
  | zero => intro l out last h; omega
  | succ n ih =>
    intro l out last hn hb ho
    have hmost : most = 4294967296 := rfl
    rw [loop_succ]
    generalize loopN (B_sect_Split_14 kr ke) n = rec at ih ⊢
    cases l with
    | nil =>
      unfold endS splitS
      rw [if_pos rfl, List.append_nil]
      rfl
    | cons id r =>
      have hid := bytes_head hb
      have hbr := bytes_tail hb
      simp only [List.length_cons] at hn ho
      unfold B_sect_Split_14
      simp only [cond_dec, cond_inB, cond_inR, cond_ne, cond_not]
      have hl1 : (((id :: r).length : Nat) : Int) = (r.length : Int) + 1 := by simp
      have h1 : rng (id :: r) 1 (((id :: r).length : Nat) : Int) = r := by rw [rng_end]; rfl
      have hc0 : (id :: r).getD (0 : Int).toNat 0 = id := rfl
      rw [if_pos (by omega), if_pos (by omega), hc0, w_i64 (n := id) (by omega), next_eq, h1]
      unfold splitS
      have ok : ∀ last', (if rk id = 0 then last else rk id) = last' → (if 0 ≤ (1 : Int) ∧ (1 : Int) ≤ (((id :: r).length : Nat) : Int) ∧ (((id :: r).length : Nat) : Int) ≤ (((id :: r).length : Nat) : Int) then
            p_leb_U r 32 fun r9 r10 r11 => if r11 = 0 then
              (if 0 ≤ IntKind.i64.wrap (1 + r10) ∧ IntKind.i64.wrap (1 + r10) ≤ (((id :: r).length : Nat) : Int) ∧ (((id :: r).length : Nat) : Int) ≤ (((id :: r).length : Nat) : Int) then
                (if r9 > IntKind.u64.wrap (((rng (id :: r) (IntKind.i64.wrap (1 + r10)) (((id :: r).length : Nat) : Int)).length : Nat) : Int) then kr out 1 else
                  if 0 ≤ (0 : Int) ∧ 0 ≤ r9 ∧ r9 ≤ (((rng (id :: r) (IntKind.i64.wrap (1 + r10)) (((id :: r).length : Nat) : Int)).length : Nat) : Int) then
                    p_slices_CloneU8 (rng (rng (id :: r) (IntKind.i64.wrap (1 + r10)) (((id :: r).length : Nat) : Int)) 0 r9) fun r19 =>
                      if out.length + ((List.replicate 1 ((0 : Int), (([] : List Int), ()))).set 0 (id, (r19, ()))).length ≤ most then
                        (if 0 ≤ r9 ∧ r9 ≤ (((rng (id :: r) (IntKind.i64.wrap (1 + r10)) (((id :: r).length : Nat) : Int)).length : Nat) : Int) ∧ (((rng (id :: r) (IntKind.i64.wrap (1 + r10)) (((id :: r).length : Nat) : Int)).length : Nat) : Int) ≤ (((rng (id :: r) (IntKind.i64.wrap (1 + r10)) (((id :: r).length : Nat) : Int)).length : Nat) : Int) then
                          rec ⟨rng (rng (id :: r) (IntKind.i64.wrap (1 + r10)) (((id :: r).length : Nat) : Int)) r9 (((rng (id :: r) (IntKind.i64.wrap (1 + r10)) (((id :: r).length : Nat) : Int)).length : Nat) : Int), out ++ (List.replicate 1 ((0 : Int), (([] : List Int), ()))).set 0 (id, (r19, ())), (last', ())⟩ else none) else none
                  else none)
              else none)
            else kr out r11 else none) = endS kr ke out (if (u32 r).2.2 ≠ 0 then ([], (u32 r).2.2) else if (u32 r).1 > r.length - (u32 r).2.1 then ([], 1)
              else ((id, ((r.drop (u32 r).2.1.toNat).take (u32 r).1.toNat, ())) :: (splitS n (r.drop ((u32 r).2.1.toNat + (u32 r).1.toNat)) (if rk id = 0 then last else rk id)).1,
                (splitS n (r.drop ((u32 r).2.1.toNat + (u32 r).1.toNat)) (if rk id = 0 then last else rk id)).2)) := by
        intro last' hlast
        rw [hlast, if_pos (by omega), p32_eq r _ hbr (by omega)]
        by_cases he : (u32 r).2.2 = 0
        · obtain ⟨q1, q2, q3, q4⟩ := u32_ok hbr he
          rw [if_pos he, if_neg (show ¬ (u32 r).2.2 ≠ 0 from fun h => h he)]
          generalize (u32 r).1 = v at *
          generalize (u32 r).2.1 = k at *
          have e1 : IntKind.i64.wrap (1 + k) = 1 + k := w_i64 (by omega)
          have e2 : rng (id :: r) (1 + k) (((id :: r).length : Nat) : Int) = r.drop k.toNat := by
            rw [rng_end, show (1 + k).toNat = k.toNat + 1 by omega, List.drop_succ_cons]
          have e3 : (((r.drop k.toNat).length : Nat) : Int) = (r.length : Int) - k := by rw [List.length_drop]; omega
          simp only [e1, e2, e3]
          rw [if_pos (by omega), w_u64 (n := (r.length : Int) - k) (by omega)]
          by_cases hv : v > (r.length : Int) - k
          · rw [if_pos hv, if_pos hv]
            unfold endS
            rw [if_neg (show ¬ (([], 1) : List Sect × Int).2 = 0 by decide), List.append_nil]
          · have e4 : rng (r.drop k.toNat) v ((r.length : Int) - k) = r.drop (k.toNat + v.toNat) := by
              rw [← e3, rng_end, List.drop_drop]
            rw [if_neg hv, if_neg hv, if_pos (by omega), rng_zero, p33_eq _ _ (by rw [List.length_take, List.length_drop]; omega), if_pos (by simp; omega), if_pos (by omega), e4]
            have hset : (List.replicate 1 ((0 : Int), (([] : List Int), ()))).set 0 (id, ((r.drop k.toNat).take v.toNat, ())) = [(id, ((r.drop k.toNat).take v.toNat, ()))] := rfl
            rw [hset, ih _ _ last' (by rw [List.length_drop]; omega) (bytes_drop hbr _) (by rw [List.length_append, List.length_drop]; simp; omega)]
            unfold endS
            simp only [List.append_assoc, List.singleton_append]
        · rw [if_neg he, if_pos he]
          unfold endS
          rw [if_neg he, List.append_nil]
      by_cases hr0 : rk id = 0
      · rw [if_pos hr0, if_neg (show ¬ (rk id ≠ 0 ∧ rk id ≤ last) from fun h => h.1 hr0)]
        exact ok last (if_pos hr0)
      · rw [if_neg hr0]
        by_cases hle : rk id ≤ last
        · rw [if_pos hle, if_pos (show rk id ≠ 0 ∧ rk id ≤ last from ⟨hr0, hle⟩)]
          unfold endS
          rw [if_neg (show ¬ (([], 2) : List Sect × Int).2 = 0 by decide), List.append_nil]
          rfl
        · rw [if_neg hle, if_neg (show ¬ (rk id ≠ 0 ∧ rk id ≤ last) from fun h => hle h.2)]
          exact ok (rk id) (if_neg hr0)

/-- the first eight bytes -/
def hdrS : List Int → List Int → Int
  | [], _ => 0
  | _ :: _, [] => 1
  | m :: M, x :: b => if x = m then hdrS M b else 2

theorem lhd {R : Type} (kr : List Sect → Int → Option R) (ke : List Int → Option R) (b M : List Int) (hM : M.length ≤ 1000) (hb : b.length ≤ 4611686018427387904) : ∀ (n i : Nat), i ≤ M.length → i ≤ b.length → M.length - i < n →
    loopN (B_sect_Split_4 kr ke) n ⟨b, M, M.length, i⟩ = if hdrS (M.drop i) (b.drop i) = 0 then ke b else kr [] (hdrS (M.drop i) (b.drop i)) := by
  intro n
  induction n with
  | zero => intro i _ _ h; omega
  | succ n ih =>
    intro i hi hib hn
    rw [loop_succ]
    generalize loopN (B_sect_Split_4 kr ke) n = rec at ih ⊢
    unfold B_sect_Split_4
    simp only [cond_dec, cond_inB, cond_ne]
    by_cases h : i = M.length
    · rw [if_neg (by omega), List.drop_eq_nil_of_le (show M.length ≤ i by omega)]
      rfl
    · have hi' : i < M.length := by omega
      have hg : M.getD i 0 = M[i] := by simp [List.getD, hi']
      rw [if_pos (by omega), if_pos (by omega), Int.toNat_natCast, hg, List.drop_eq_getElem_cons hi']
      by_cases hbl : i = b.length
      · rw [if_pos (by omega), List.drop_eq_nil_of_le (show b.length ≤ i by omega)]
        rfl
      · have hb' : i < b.length := by omega
        have hgb : b.getD i 0 = b[i] := by simp [List.getD, hb']
        rw [if_neg (by omega), if_pos (by omega), hgb, List.drop_eq_getElem_cons hb']
        unfold hdrS
        by_cases hx : b[i] = M[i]
        · rw [if_pos hx, if_pos hx, w_i64 (by omega), show ((i : Int) + 1) = ((i + 1 : Nat) : Int) by omega, ih (i + 1) (by omega) (by omega) (by omega)]
        · rw [if_neg hx, if_neg hx, if_neg (by decide)]

def magicL : List Int := [0, 97, 115, 109, 1, 0, 0, 0]

theorem hdr_len : ∀ {M b : List Int}, hdrS M b = 0 → M.length ≤ b.length
  | [], b, _ => Nat.zero_le _
  | _ :: _, [], h => by cases h
  | m :: M, x :: b, h => by
    unfold hdrS at h
    split at h
    · simp only [List.length_cons]; have := hdr_len h; omega
    · cases h

/-- a module's sections; the error -/
def splitL (n : Nat) (b : List Int) : List Sect × Int := if b.length > 65536 then ([], 4) else if hdrS magicL b = 0 then splitS n (b.drop 8) 0 else ([], hdrS magicL b)

theorem split_eq {R : Type} (b : List Int) (K : List Sect → Int → Option R) (hb : bytes b) (hl : b.length ≤ 70000) : p_sect_Split b K = K (splitL fuel64 b).1 (splitL fuel64 b).2 := by
  unfold p_sect_Split splitL
  simp only [cond_dec]
  by_cases h4 : b.length > 65536
  · rw [if_pos (by omega), if_pos h4]
  · rw [if_neg (by omega), if_neg h4]
    show loopN (B_sect_Split_4 _ _) fuel64 ⟨b, magicL, (magicL.length : Int), ((0 : Nat) : Int)⟩ = _
    rw [lhd _ _ b magicL (by decide) (by omega) fuel64 0 (by omega) (by omega) (lt_fuel (by decide)), List.drop_zero, List.drop_zero]
    by_cases hh : hdrS magicL b = 0
    · have h8 : 8 ≤ b.length := hdr_len hh
      rw [if_pos hh, if_pos hh]
      simp only [cond_inR]
      rw [if_pos (by omega), rng_end]
      unfold fuel_sect_Split_14
      rw [show (8 : Int).toNat = 8 from rfl, lsp _ _ fuel64 (b.drop 8) [] 0 (lt_fuel (by rw [List.length_drop]; omega)) (bytes_drop hb 8) (by rw [List.length_drop]; simp; omega)]
      unfold endS
      by_cases he : (splitS fuel64 (b.drop 8) 0).2 = 0
      · rw [if_pos he, List.nil_append, he]
      · rw [if_neg he, List.nil_append]
    · rw [if_neg hh, if_neg hh]

end Go.Trm.G1
