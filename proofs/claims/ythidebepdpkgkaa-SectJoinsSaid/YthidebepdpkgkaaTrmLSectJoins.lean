import Derived.Test.YthidebepdpkgkaaTrmPBack
import Derived.Test.YthidebepdpkgkaaTrmArgs
set_option linter.unusedVariables false
set_option linter.unusedSimpArgs false
namespace Go.Trm.G1

theorem rk_neg {id : Int} (h : id < 0) : rk id = -1 := by
  unfold rk; rw [if_neg (by omega), if_neg (by omega), if_neg (by omega), if_neg (by omega), if_neg (by omega)]
theorem rk_big {id : Int} (h : 12 < id) : rk id = -1 := by
  unfold rk; rw [if_neg (by omega), if_neg (by omega), if_neg (by omega), if_neg (by omega), if_neg (by omega)]

theorem may_all {R : Type} (out : List Sect) (last id : Int) (K : Bool → Option R) (hI : InvS out last) (hl : out.length ≤ 4294967296) : p_ref07_may out id K = if rk id ≠ 0 ∧ rk id ≤ last then K false else K true := by
  have h0 := hI.l0
  by_cases h1 : id < 0
  · rw [if_pos (by rw [rk_neg h1]; omega)]
    unfold p_ref07_may
    simp only [cond_dec]
    rw [if_pos h1]
  · by_cases h2 : 12 < id
    · rw [if_pos (by rw [rk_big h2]; omega)]
      unfold p_ref07_may
      simp only [cond_dec]
      rw [if_neg h1, if_pos (by omega)]
    · exact may_eq out last id K hI (by omega) hl

theorem rj2 {R : Type} (kr : List Int → Int → Option R) (ke : List Sect → Option R) (l : List Sect) (hl : l.length ≤ 1000000) : ∀ (n i : Nat) (last : Int), i ≤ l.length → l.length - i < n → InvS (l.take i) last →
    loopN (B_ref07_Join_2 kr ke) n ⟨l, i⟩ = if ordS (l.drop i) last = true then ke l else kr [] 2 := by
  intro n
  induction n with
  | zero => intro i _ _ h; omega
  | succ n ih =>
    intro i last hi hn hI
    rw [loop_succ]
    generalize loopN (B_ref07_Join_2 kr ke) n = rec at ih ⊢
    unfold B_ref07_Join_2
    simp only [cond_dec, cond_inB, cond_inR, cond_not]
    by_cases h : i = l.length
    · rw [if_neg (by omega), List.drop_eq_nil_of_le (by omega)]
      rfl
    · have hi' : i < l.length := by omega
      have hg : l.getD i ((0 : Int), (([] : List Int), ())) = l[i] := by simp [List.getD, hi']
      rw [if_pos (by omega), if_pos (by omega), if_pos (by omega), Int.toNat_natCast, hg, rng_to, may_all _ last _ _ hI (by rw [List.length_take]; omega), List.drop_eq_getElem_cons hi']
      unfold ordS
      have hnext : ∀ last', InvS (l.take (i + 1)) last' → rec ⟨l, IntKind.i64.wrap ((i : Int) + 1)⟩ = if ordS (l.drop (i + 1)) last' = true then ke l else kr [] 2 := fun last' hI' => by
        rw [w_i64 (by omega), show ((i : Int) + 1) = ((i + 1 : Nat) : Int) by omega, ih (i + 1) _ (by omega) (by omega) hI']
      have hpush : ∀ last', ¬ (rk l[i].1 ≠ 0 ∧ rk l[i].1 ≤ last) → last' = (if rk l[i].1 = 0 then last else rk l[i].1) → InvS (l.take (i + 1)) last' := fun last' hok he => by
        have h0 := hI.l0
        have hid : 0 ≤ l[i].1 ∧ l[i].1 ≤ 255 := by
          have := rk_in (id := l[i].1) (by omega)
          omega
        rw [List.take_succ_eq_append_getElem hi', he]
        exact hI.push (x := l[i].2.1) hid hok
      by_cases h0 : rk l[i].1 = 0
      · rw [if_neg (by omega), if_pos h0]
        simp only [cond_true]
        exact hnext last (hpush last (by omega) (by rw [if_pos h0]))
      · rw [if_neg h0]
        by_cases h1 : rk l[i].1 ≤ last
        · rw [if_pos ⟨h0, h1⟩, if_pos h1]
          rfl
        · rw [if_neg (by omega), if_neg h1]
          simp only [cond_true]
          exact hnext _ (hpush _ (by omega) (by rw [if_neg h0]))

theorem catS_len (l : List Sect) (i : Nat) (hi : i < l.length) : catS (l.drop i) = l[i].1 % 256 :: (putN 9 l[i].2.1.length ++ (l[i].2.1 ++ catS (l.drop (i + 1)))) := by
  rw [List.drop_eq_getElem_cons hi]; rfl

theorem catS_bound : ∀ (l : List Sect), (∀ s ∈ l, s.2.1.length ≤ 70000) → (catS l).length ≤ l.length * 70020
  | [], _ => by simp [catS]
  | s :: l, h => by
    have h1 := h s (by simp)
    have h2 := catS_bound l fun t ht => h t (by simp [ht])
    have hp := putN_len 9 (s.2.1.length : Int)
    simp only [catS, List.length_cons, List.length_append]
    rw [Nat.add_mul]
    omega

theorem rj8 {R : Type} (ke : List Int → Option R) (l : List Sect) (hl : l.length ≤ 40) (hs : ∀ s ∈ l, s.2.1.length ≤ 70000) : ∀ (n i : Nat) (out : List Int), i ≤ l.length → l.length - i < n → out.length ≤ 8 + i * 70020 →
    loopN (B_ref07_Join_8 ke) n ⟨l, out, i⟩ = ke (out ++ catS (l.drop i)) := by
  intro n
  induction n with
  | zero => intro i _ _ h; omega
  | succ n ih =>
    intro i out hi hn ho
    have hmost : most = 4294967296 := rfl
    rw [loop_succ]
    generalize loopN (B_ref07_Join_8 ke) n = rec at ih ⊢
    unfold B_ref07_Join_8
    simp only [cond_dec, cond_inB]
    by_cases h : i = l.length
    · rw [if_neg (by omega), List.drop_eq_nil_of_le (by omega)]
      simp [catS]
    · have hi' : i < l.length := by omega
      have hg : l.getD i ((0 : Int), (([] : List Int), ())) = l[i] := by simp [List.getD, hi']
      have hsi := hs _ (List.getElem_mem hi')
      have hp := putN_len 9 (l[i].2.1.length : Int)
      have hset : (List.replicate 1 (0 : Int)).set 0 (IntKind.u8.wrap l[i].1) = [l[i].1 % 256] := rfl
      have e1 : IntKind.u64.wrap (l[i].2.1.length : Int) = (l[i].2.1.length : Int) := w_u64 (by omega)
      have e2 : IntKind.i64.wrap ((i : Int) + 1) = ((i + 1 : Nat) : Int) := by rw [w_i64 (by omega)]; rfl
      have b1 : i * 70020 ≤ 40 * 70020 := Nat.mul_le_mul_right _ (by omega)
      have b2 : (i + 1) * 70020 = i * 70020 + 70020 := Nat.succ_mul _ _
      simp only [Int.toNat_natCast, hg, hset, e1, e2]
      rw [if_pos (by omega), if_pos (by omega), if_pos (by simp; omega), if_pos (by omega), p37_eq _ _ (by omega) (by omega), if_pos (by simp only [List.length_append, List.length_cons, List.length_nil]; omega), if_pos (by omega),
        if_pos (by simp only [List.length_append, List.length_cons, List.length_nil]; omega), ih (i + 1) _ (by omega) (by omega) (by simp only [List.length_append, List.length_cons, List.length_nil]; omega), catS_len l i hi']
      simp

theorem joinS_eq : ∀ (l : List Sect) (out : List Int), out.length ≤ 65536 → joinS l out = if (out ++ catS l).length ≤ 65536 then (out ++ catS l, 0) else ([], 4)
  | [], out, h => by simp [joinS, catS, h]
  | s :: l, out, h => by
    have e : putS out s ++ catS l = out ++ catS (s :: l) := by simp [putS, catS]
    have h3 : s.2.1.length ≤ (putS out s).length := by simp [putS]; omega
    have h4 : (putS out s ++ catS l).length = (putS out s).length + (catS l).length := List.length_append
    unfold joinS
    by_cases h1 : s.2.1.length > 65536
    · rw [if_pos h1, if_neg (by rw [← e]; omega)]
    · rw [if_neg h1]
      by_cases h2 : (putS out s).length > 65536
      · rw [if_pos h2, if_neg (by rw [← e]; omega)]
      · rw [if_neg h2, joinS_eq l _ (by omega), e]

theorem refjoin_eq {R : Type} (l : List Sect) (K : List Int → Int → Option R) (hl : l.length ≤ 40) (hs : ∀ s ∈ l, s.2.1.length ≤ 70000) : p_ref07_Join l K = if ordS l 0 = true then K (joinS l magicL).1 (joinS l magicL).2 else K [] 2 := by
  have hmost : most = 4294967296 := rfl
  unfold p_ref07_Join fuel_ref07_Join_2
  refine (rj2 _ _ l (by omega) fuel64 0 0 (by omega) (lt_fuel (by omega)) ⟨by omega, fun s hs => by simp at hs, .inl rfl⟩).trans ?_
  rw [List.drop_zero]
  by_cases ho : ordS l 0 = true
  case neg => rw [if_neg ho, if_neg ho]
  rw [if_pos ho, if_pos ho]
  show cond (Nat.blt 0 (List.length magicL)) (loopN (B_ref07_Join_8 _) fuel64 ⟨l, magicL, ((0 : Nat) : Int)⟩) none = _
  rw [show Nat.blt 0 (List.length magicL) = true from rfl, cond_true]
  refine (rj8 _ l hl hs fuel64 0 magicL (by omega) (lt_fuel (by omega)) (by decide)).trans ?_
  rw [List.drop_zero, joinS_eq l magicL (by decide)]
  simp only [cond_dec]
  by_cases h : (magicL ++ catS l).length ≤ 65536
  · rw [if_neg (by omega), if_pos h]
  · rw [if_pos (by omega), if_neg h]

theorem ljo {R : Type} (ke : List Sect → List Sect → Option R) (l : List Sect) (hl : l.length ≤ 40) : ∀ (n i : Nat) (out : List Sect), i ≤ l.length → l.length - i < n → out.length = i →
    loopN (B_law07_SectJoins_7 ke) n ⟨l, out, i⟩ = ke l (out ++ l.drop i) := by
  intro n
  induction n with
  | zero => intro i _ _ h; omega
  | succ n ih =>
    intro i out hi hn ho
    have hmost : most = 4294967296 := rfl
    rw [loop_succ]
    generalize loopN (B_law07_SectJoins_7 ke) n = rec at ih ⊢
    unfold B_law07_SectJoins_7
    simp only [cond_dec, cond_inB]
    by_cases h : i = l.length
    · rw [if_neg (by omega), List.drop_eq_nil_of_le (by omega), List.append_nil]
    · have hi' : i < l.length := by omega
      have hg : l.getD i ((0 : Int), (([] : List Int), ())) = l[i] := by simp [List.getD, hi']
      rw [if_pos (by omega), if_pos (by omega), if_pos (by omega), Int.toNat_natCast, hg, if_pos (by simp; omega), w_i64 (n := (i : Int) + 1) (by omega), show ((i : Int) + 1) = ((i + 1 : Nat) : Int) by omega,
        ih (i + 1) _ (by omega) (by omega) (by simp [ho]), List.drop_eq_getElem_cons hi', List.append_assoc]
      rfl

theorem sect_joins (l : List Sect) (hl : ∀ s ∈ l, ∀ n ∈ s.2.1, IntKind.u8.has n) : p_law07_SectJoins l Yes = some () := by
  unfold p_law07_SectJoins
  rw [awake07_eq]
  simp only [cond_not, cond_true]
  refine short_then l _ _ rfl fun ⟨hs1, hs2⟩ => ?_
  simp only [cond_true, cond_ne, cond_eq]
  have hbig : ∀ s ∈ l, s.2.1.length ≤ 4611686018427387904 := fun s hs => by have := hs2 s hs; omega
  unfold fuel_law07_SectJoins_7
  refine (ljo _ l hs1 fuel64 0 [] (by omega) (lt_fuel (by omega)) rfl).trans ?_
  rw [List.drop_zero, List.nil_append, join_eq l _ (by omega) hbig, refjoin_eq l _ hs1 hs2]
  have hm8 : magicL.length = 8 := rfl
  have hb := catS_bound l hs2
  by_cases ho : ordS l 0 = true
  · simp only [if_pos ho]
    rw [joinS_eq l magicL (by decide)]
    rw [told_eq _ _ (by omega), same_eq _ _ _ (by omega) hbig, if_pos rfl]
    by_cases h : (magicL ++ catS l).length ≤ 65536
    · rw [if_pos h]
      have hbyt : bytes (magicL ++ catS l) := u8_bytes (fun n hn => by
        rcases List.mem_append.1 hn with hn | hn
        · have : n = 0 ∨ n = 97 ∨ n = 115 ∨ n = 109 ∨ n = 1 := by
            simp only [magicL, List.mem_cons, List.not_mem_nil, or_false] at hn
            omega
          show (0 : Int) ≤ n ∧ n ≤ 255
          omega
        · exact bytes_cat l (fun s hs => ⟨hl s hs, by have := hs2 s hs; omega⟩) n hn)
      simp only
      rw [p21_eq _ _ _ (by omega), if_pos rfl]
      simp only [if_true, cond_true]
      rw [split_eq _ _ hbyt (by omega), splitL_cat l ho (fun s hs => by have := hs2 s hs; omega) h]
      simp only [if_true]
      rw [told_eq _ _ (by omega), same_eq _ _ _ (by omega) hbig, if_pos rfl]
      rfl
    · rw [if_neg h]
      simp only
      rw [p21_eq _ _ _ (by simp), if_pos rfl]
      rfl
  · rw [if_neg ho, refjoin_eq l _ hs1 hs2, if_neg ho, if_pos rfl, p21_eq _ _ _ (by simp), if_pos rfl]
    simp only [cond_true]
    rw [told_eq _ _ (by omega), same_eq _ _ _ (by omega) hbig, if_pos rfl]
    rfl

theorem bytes_ofJ {l : List Sect} (h : okI (.sl 38 (.pair (.int .i64) (.pair (.sl 5 (.int .u8)) .unit))) l) : ∀ s ∈ l, ∀ n ∈ s.2.1, IntKind.u8.has n := fun s hs => (h.2 s hs).2.1.2

end Go.Trm.G1
