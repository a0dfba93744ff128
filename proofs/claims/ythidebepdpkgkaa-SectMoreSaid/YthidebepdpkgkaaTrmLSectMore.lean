import Derived.Test.YthidebepdpkgkaaTrmPBack
import Derived.Test.YthidebepdpkgkaaTrmArgs
set_option linter.unusedVariables false
set_option linter.unusedSimpArgs false
namespace Go.Trm.G1

theorem lmore {R : Type} (ke : Int → List Int → List Sect → Option R) (l : List Sect) (at_ : Int) (b : List Int) (hl : l.length ≤ 40) : ∀ (n i : Nat) (out : List Sect), i ≤ l.length → l.length - i < n → out.length = i →
    loopN (B_law07_SectMore_7 ke) n ⟨l, at_, b, out, i⟩ = ke at_ b (out ++ l.drop i) := by
  intro n
  induction n with
  | zero => intro i _ _ h; omega
  | succ n ih =>
    intro i out hi hn ho
    have hmost : most = 4294967296 := rfl
    rw [loop_succ]
    generalize loopN (B_law07_SectMore_7 ke) n = rec at ih ⊢
    unfold B_law07_SectMore_7
    simp only [cond_dec, cond_inB]
    by_cases h : i = l.length
    · rw [if_neg (by omega), List.drop_eq_nil_of_le (by omega), List.append_nil]
    · have hi' : i < l.length := by omega
      have hg : l.getD i ((0 : Int), (([] : List Int), ())) = l[i] := by simp [List.getD, hi']
      rw [if_pos (by omega), if_pos (by omega), if_pos (by omega), Int.toNat_natCast, hg, if_pos (by simp; omega), w_i64 (n := (i : Int) + 1) (by omega), show ((i : Int) + 1) = ((i + 1 : Nat) : Int) by omega,
        ih (i + 1) _ (by omega) (by omega) (by simp [ho]), List.drop_eq_getElem_cons hi', List.append_assoc]
      rfl

theorem putN_small {n : Int} (h0 : 0 ≤ n) (h : n ≤ 100) : putN 9 n = [n] := by unfold putN; rw [if_pos (by omega)]

theorem sect_more (l : List Sect) (at_ : Int) (b : List Int) (hl : ∀ s ∈ l, ∀ n ∈ s.2.1, IntKind.u8.has n) (hb : ∀ n ∈ b, IntKind.u8.has n) : p_law07_SectMore l at_ b Yes = some () := by
  have hmost : most = 4294967296 := rfl
  unfold p_law07_SectMore
  rw [awake07_eq]
  simp only [cond_not, cond_true]
  refine short_then l _ _ rfl fun ⟨hs1, hs2⟩ => ?_
  simp only [cond_true, cond_dec, cond_inR, cond_ne, cond_eq]
  by_cases ha : at_ < 0
  · rw [if_pos ha]
  rw [if_neg ha]
  by_cases hal : at_ > (l.length : Int)
  · rw [if_pos hal]
  rw [if_neg hal]
  by_cases hbl : (b.length : Int) > 100
  · rw [if_pos hbl]
  rw [if_neg hbl]
  unfold fuel_law07_SectMore_7
  refine (lmore _ l at_ b hs1 fuel64 0 [] (by omega) (lt_fuel (by omega)) rfl).trans ?_
  rw [List.drop_zero, List.nil_append]
  have hbig : ∀ s ∈ l, s.2.1.length ≤ 4611686018427387904 := fun s hs => by have := hs2 s hs; omega
  rw [join_eq l _ (by omega) hbig]
  by_cases ho : ordS l 0 = true
  case neg => rw [if_neg ho]; rfl
  rw [if_pos ho]
  by_cases he : (joinS l magicL).2 = 0
  case neg => rw [if_neg he]
  rw [if_pos he, joinS_ok l _ he]
  have hm8 : magicL.length = 8 := rfl
  have hcl : (magicL ++ catS l).length = 8 + (catS l).length := by rw [List.length_append, hm8]
  rw [hcl]
  by_cases hc : ((8 + (catS l).length : Nat) : Int) > 60000
  · rw [if_pos hc]
  rw [if_neg hc]
  obtain ⟨k, rfl⟩ := Int.eq_ofNat_of_zero_le (by omega : 0 ≤ at_)
  have e1 : rng l 0 ((k : Nat) : Int) = l.take k := rng_to l k
  have e2 : rng l ((k : Nat) : Int) (l.length : Int) = l.drop k := by rw [rng_end, Int.toNat_natCast]
  have e3 : (List.replicate 1 ((0 : Int), (([] : List Int), ()))).set 0 ((0 : Int), (b, ())) = [(0, (b, ()))] := rfl
  have e4 : List.replicate 0 ((0 : Int), (([] : List Int), ())) = [] := rfl
  rw [if_pos (by omega), if_pos (by omega)]
  simp only [e1, e2, e3, e4, List.nil_append, both_self]
  have l1 : (l.take k).length ≤ 40 := by rw [List.length_take]; omega
  have l2 : (l.drop k).length ≤ 40 := by rw [List.length_drop]; omega
  rw [if_pos (by simp; omega), if_pos (by simp; omega), if_pos (by simp; omega)]
  have hsplit : l = l.take k ++ l.drop k := (List.take_append_drop k l).symm
  have hord : ordS (l.take k ++ [(0, (b, ()))] ++ l.drop k) 0 = true := by
    rw [List.append_assoc, List.singleton_append, ordS_more, ← hsplit]; exact ho
  have hmem : ∀ s ∈ l.take k ++ [(0, (b, ()))] ++ l.drop k, s ∈ l ∨ s = (0, (b, ())) := by
    intro s hs
    rcases List.mem_append.1 hs with hs | hs
    · rcases List.mem_append.1 hs with hs | hs
      · exact .inl (List.mem_of_mem_take hs)
      · exact .inr (List.mem_singleton.1 hs)
    · exact .inl (List.mem_of_mem_drop hs)
  have hlen : ∀ s ∈ l.take k ++ [(0, (b, ()))] ++ l.drop k, s.2.1.length ≤ 70000 := by
    intro s hs
    rcases hmem s hs with h | rfl
    · exact hs2 s h
    · show b.length ≤ 70000; omega
  have hby : ∀ s ∈ l.take k ++ [(0, (b, ()))] ++ l.drop k, ∀ n ∈ s.2.1, IntKind.u8.has n := by
    intro s hs
    rcases hmem s hs with h | rfl
    · exact hl s h
    · exact hb
  have hcat : (catS (l.take k ++ [(0, (b, ()))] ++ l.drop k)).length = (catS l).length + 2 + b.length := by
    have h1 : (catS l).length = (catS (l.take k)).length + (catS (l.drop k)).length := by rw [← List.length_append, ← catS_app, ← hsplit]
    have h2 : catS [((0 : Int), (b, ()))] = 0 :: (putN 9 b.length ++ (b ++ [])) := rfl
    rw [catS_app, catS_app, List.length_append, List.length_append, h1, h2, putN_small (by omega) (by omega)]
    simp only [List.length_cons, List.length_append, List.length_nil]
    omega
  have hml : (l.take k ++ [(0, (b, ()))] ++ l.drop k).length ≤ 100 := by simp only [List.length_append, List.length_cons, List.length_nil]; omega
  generalize l.take k ++ [(0, (b, ()))] ++ l.drop k = m at *
  have hfit : (magicL ++ catS m).length ≤ 65536 := by rw [List.length_append, hm8, hcat]; omega
  have hbig : ∀ s ∈ m, s.2.1.length ≤ 4611686018427387904 := fun s hs => by have := hlen s hs; omega
  have hbyt : bytes (magicL ++ catS m) := u8_bytes (fun n hn => by
    rcases List.mem_append.1 hn with hn | hn
    · have : n = 0 ∨ n = 97 ∨ n = 115 ∨ n = 109 ∨ n = 1 := by
        simp only [magicL, List.mem_cons, List.not_mem_nil, or_false] at hn
        omega
      show (0 : Int) ≤ n ∧ n ≤ 255
      omega
    · exact bytes_cat m (fun s hs => ⟨hby s hs, by have := hlen s hs; omega⟩) n hn)
  rw [join_eq m _ (by omega) hbig, if_pos hord, joinS_fits m _ hfit]
  simp only
  rw [split_eq _ _ hbyt (by omega), splitL_cat m hord (fun s hs => by have := hlen s hs; omega) hfit]
  simp only [if_true]
  rw [told_eq _ _ (by omega), told_eq _ _ (by omega), same_eq _ _ _ (by omega) hbig, if_pos rfl]
  rfl

theorem bytes_of {l : List Sect} (h : okI (.sl 38 (.pair (.int .i64) (.pair (.sl 5 (.int .u8)) .unit))) l) : ∀ s ∈ l, ∀ n ∈ s.2.1, IntKind.u8.has n := fun s hs => (h.2 s hs).2.1.2

end Go.Trm.G1
