import Derived.Test.YthidebepdpkgkaaTrmPSect
set_option linter.unusedVariables false
set_option linter.unusedSimpArgs false
namespace Go.Trm.G1

/-- are sections in order? -/
def ordS : List Sect → Int → Bool
  | [], _ => true
  | s :: l, last => if rk s.1 = 0 then ordS l last else if rk s.1 ≤ last then false else ordS l (rk s.1)

/-- a section behind bytes -/
def putS (out : List Int) (s : Sect) : List Int := out ++ [s.1 % 256] ++ putN 9 s.2.1.length ++ s.2.1

/-- the bytes of sections -/
def joinS : List Sect → List Int → List Int × Int
  | [], out => (out, 0)
  | s :: l, out => if s.2.1.length > 65536 then ([], 4) else if (putS out s).length > 65536 then ([], 4) else joinS l (putS out s)

theorem lj4 {R : Type} (kr : List Int → Int → Option R) (ke : List Sect → List Int → Option R) (w l : List Sect) (out : List Int) (hl : l.length ≤ 1000000) : ∀ (n i : Nat) (last : Int), i ≤ l.length → l.length - i < n →
    loopN (B_sect_Join_4 kr ke) n ⟨w, out, (last, ()), l, l.length, i⟩ = if ordS (l.drop i) last = true then ke w out else kr [] 2 := by
  intro n
  induction n with
  | zero => intro i _ _ h; omega
  | succ n ih =>
    intro i last hi hn
    rw [loop_succ]
    generalize loopN (B_sect_Join_4 kr ke) n = rec at ih ⊢
    unfold B_sect_Join_4
    simp only [cond_dec, cond_inB, cond_not]
    by_cases h : i = l.length
    · rw [if_neg (by omega), List.drop_eq_nil_of_le (by omega)]
      rfl
    · have hi' : i < l.length := by omega
      have hg : l.getD i ((0 : Int), (([] : List Int), ())) = l[i] := by simp [List.getD, hi']
      rw [if_pos (by omega), if_pos (by omega), Int.toNat_natCast, hg, next_eq, List.drop_eq_getElem_cons hi']
      unfold ordS
      by_cases h0 : rk l[i].1 = 0
      · rw [if_pos h0, if_pos h0]
        simp only [cond_true]
        rw [w_i64 (by omega), show ((i : Int) + 1) = ((i + 1 : Nat) : Int) by omega, ih (i + 1) _ (by omega) (by omega)]
      · rw [if_neg h0, if_neg h0]
        by_cases h1 : rk l[i].1 ≤ last
        · rw [if_pos h1, if_pos h1]
          rfl
        · rw [if_neg h1, if_neg h1]
          simp only [cond_true]
          rw [w_i64 (by omega), show ((i : Int) + 1) = ((i + 1 : Nat) : Int) by omega, ih (i + 1) _ (by omega) (by omega)]

theorem lj10 {R : Type} (kr : List Int → Int → Option R) (ke : List Int → Option R) (l : List Sect) (hl : l.length ≤ 1000000) (hs : ∀ s ∈ l, s.2.1.length ≤ 4611686018427387904) : ∀ (n i : Nat) (out : List Int), i ≤ l.length → l.length - i < n → out.length ≤ 65536 →
    loopN (B_sect_Join_10 kr ke) n ⟨out, l, l.length, i⟩ = if (joinS (l.drop i) out).2 = 0 then ke (joinS (l.drop i) out).1 else kr (joinS (l.drop i) out).1 (joinS (l.drop i) out).2 := by
  intro n
  induction n with
  | zero => intro i _ _ h; omega
  | succ n ih =>
    intro i out hi hn ho
    have hmost : most = 4294967296 := rfl
    rw [loop_succ]
    generalize loopN (B_sect_Join_10 kr ke) n = rec at ih ⊢
    unfold B_sect_Join_10
    simp only [cond_dec, cond_inB]
    by_cases h : i = l.length
    · rw [if_neg (by omega), List.drop_eq_nil_of_le (by omega)]
      rfl
    · have hi' : i < l.length := by omega
      have hg : l.getD i ((0 : Int), (([] : List Int), ())) = l[i] := by simp [List.getD, hi']
      have hsi := hs _ (List.getElem_mem hi')
      rw [if_pos (by omega), if_pos (by omega), Int.toNat_natCast, hg, List.drop_eq_getElem_cons hi']
      unfold joinS
      by_cases hb : l[i].2.1.length > 65536
      · rw [if_pos (by omega), if_pos hb]
        rfl
      · rw [if_neg (by omega), if_neg hb]
        have hp := putN_len 9 (l[i].2.1.length : Int)
        have hset : (List.replicate 1 (0 : Int)).set 0 (IntKind.u8.wrap l[i].1) = [l[i].1 % 256] := rfl
        have e1 : IntKind.u64.wrap (l[i].2.1.length : Int) = (l[i].2.1.length : Int) := w_u64 (by omega)
        have e2 : IntKind.i64.wrap ((i : Int) + 1) = ((i + 1 : Nat) : Int) := by rw [w_i64 (by omega)]; rfl
        have c1 : (out.length + ([l[i].1 % 256] : List Int).length ≤ most) = True := by simp; omega
        have hput : ∀ K : List Int → Option R, p_leb_PutU (out ++ [l[i].1 % 256]) (l[i].2.1.length : Int) K = K (out ++ [l[i].1 % 256] ++ putN 9 l[i].2.1.length) := fun K =>
          p36_eq _ _ _ (by omega) (by omega) (by simp; omega)
        have c2 : ((out ++ [l[i].1 % 256] ++ putN 9 l[i].2.1.length).length + l[i].2.1.length ≤ most) = True := by simp; omega
        simp only [hset, e1, e2, c1, hput, c2, if_true, both_self]
        have hpS : out ++ [l[i].1 % 256] ++ putN 9 (l[i].2.1.length : Int) ++ l[i].2.1 = putS out l[i] := rfl
        simp only [hpS]
        by_cases hq : (putS out l[i]).length > 65536
        · rw [if_pos (by omega), if_pos hq]
          rfl
        · rw [if_neg (by omega), if_neg hq]
          exact ih (i + 1) _ (by omega) (by omega) (by omega)

theorem join_eq {R : Type} (l : List Sect) (K : List Int → Int → Option R) (hl : l.length ≤ 1000000) (hs : ∀ s ∈ l, s.2.1.length ≤ 4611686018427387904) : p_sect_Join l K = if ordS l 0 = true then K (joinS l magicL).1 (joinS l magicL).2 else K [] 2 := by
  unfold p_sect_Join
  show loopN (B_sect_Join_4 _ _) fuel64 ⟨l, magicL, ((0 : Int), ()), l, (l.length : Int), ((0 : Nat) : Int)⟩ = _
  rw [lj4 _ _ l l magicL hl fuel64 0 0 (by omega) (lt_fuel (by omega)), List.drop_zero]
  by_cases ho : ordS l 0 = true
  · rw [if_pos ho, if_pos ho]
    unfold fuel_sect_Join_10
    have := lj10 (fun w8 w9 => K w8 w9) (fun w10 => K w10 (0 : Int)) l hl hs fuel64 0 magicL (by omega) (lt_fuel (by omega)) (by decide)
    rw [List.drop_zero] at this
    refine this.trans ?_
    by_cases he : (joinS l magicL).2 = 0
    · rw [if_pos he, he]
    · rw [if_neg he]
  · rw [if_neg ho, if_neg ho]

theorem split_one : splitL fuel64 [0, 97, 115, 109, 1, 0, 0, 0, 1, 1, 0] = ([(1, ([0], ()))], 0) := by
  unfold splitL
  rw [if_neg (by decide), if_pos (by decide)]
  obtain ⟨m, hm⟩ := fuel_add 3 (by omega)
  rw [hm]
  show splitS (m + 3) [1, 1, 0] 0 = _
  have hu : u32 [1, 0] = (1, 1, 0) := by
    unfold u32 raw
    simp
  unfold splitS
  rw [if_neg (by decide), hu, if_neg (by decide), if_neg (by decide)]
  show ((1, ([0], ())) :: (splitS (m + 2) [] _).1, (splitS (m + 2) [] _).2) = _
  rfl

theorem awake07_eq {R : Type} (K : Bool → Option R) : p_law07_awake K = K true := by
  unfold p_law07_awake
  show p_sect_Join [(1, ([0], ()))] _ = _
  rw [join_eq _ _ (by decide) (by intro s hs; rw [List.mem_singleton.1 hs]; decide)]
  have h1 : ordS [(1, ([0], ()))] 0 = true := by decide
  have h2 : joinS [(1, ([0], ()))] magicL = ([0, 97, 115, 109, 1, 0, 0, 0, 1, 1, 0], 0) := by decide +kernel
  rw [if_pos h1, h2]
  simp only
  rw [split_eq _ _ (by intro i; rcases (by omega : i = 0 ∨ i = 1 ∨ i = 2 ∨ i = 3 ∨ i = 4 ∨ i = 5 ∨ i = 6 ∨ i = 7 ∨ i = 8 ∨ i = 9 ∨ i = 10 ∨ 11 ≤ i) with h | h | h | h | h | h | h | h | h | h | h | h <;> first | (subst h; decide) | (rw [show ([0, 97, 115, 109, 1, 0, 0, 0, 1, 1, 0] : List Int).getD i 0 = 0 by rw [List.getD_eq_getElem?_getD, List.getElem?_eq_none (by simpa using h)]; rfl]; decide)) (by decide), split_one]
  rfl

end Go.Trm.G1
