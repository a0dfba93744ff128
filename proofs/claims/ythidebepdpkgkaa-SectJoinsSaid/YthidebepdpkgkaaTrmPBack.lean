import Derived.Test.YthidebepdpkgkaaTrmPRefSect
import Derived.Test.YthidebepdpkgkaaTrmPJoin
set_option linter.unusedVariables false
set_option linter.unusedSimpArgs false
namespace Go.Trm.G1

/-! What was joined is split. -/

theorem u32_put (n : Int) (rest : List Int) (h0 : 0 ≤ n) (h : n < 2097152) : u32 (putN 9 n ++ rest) = (n, ((putN 9 n).length : Int), 0) := by
  by_cases h1 : n < 128
  · have hp : putN 9 n = [n] := by unfold putN; rw [if_pos h1]
    rw [hp]
    unfold u32
    simp only [List.singleton_append, raw, if_pos h1]
    simp
  · by_cases h2 : n < 16384
    · have hp : putN 9 n = [n % 128 + 128, n / 128] := by
        unfold putN; rw [if_neg h1]; unfold putN; rw [if_pos (by omega)]
      rw [hp]
      unfold u32
      simp only [List.cons_append, List.nil_append, raw, if_neg (show ¬ n % 128 + 128 < 128 by omega), if_pos (show n / 128 < 128 by omega)]
      rw [if_neg (by omega), show (n % 128 + 128) % 128 + 128 * (n / 128) = n by omega]
      rfl
    · have hp : putN 9 n = [n % 128 + 128, n / 128 % 128 + 128, n / 128 / 128] := by
        unfold putN; rw [if_neg h1]; unfold putN; rw [if_neg (by omega)]; unfold putN; rw [if_pos (by omega)]
      rw [hp]
      unfold u32
      simp only [List.cons_append, List.nil_append, raw, if_neg (show ¬ n % 128 + 128 < 128 by omega), if_neg (show ¬ n / 128 % 128 + 128 < 128 by omega), if_pos (show n / 128 / 128 < 128 by omega)]
      rw [if_neg (by omega), show (n % 128 + 128) % 128 + 128 * ((n / 128 % 128 + 128) % 128 + 128 * (n / 128 / 128)) = n by omega]
      rfl

theorem bytes_put9 (n : Int) (h0 : 0 ≤ n) (h : n < 2097152) : ∀ x ∈ putN 9 n, IntKind.u8.has x := by
  intro x hx
  show (0 : Int) ≤ x ∧ x ≤ 255
  by_cases h1 : n < 128
  · have hp : putN 9 n = [n] := by unfold putN; rw [if_pos h1]
    rw [hp] at hx
    simp only [List.mem_singleton] at hx
    omega
  · by_cases h2 : n < 16384
    · have hp : putN 9 n = [n % 128 + 128, n / 128] := by
        unfold putN; rw [if_neg h1]; unfold putN; rw [if_pos (by omega)]
      rw [hp] at hx
      simp only [List.mem_cons, List.not_mem_nil, or_false] at hx
      omega
    · have hp : putN 9 n = [n % 128 + 128, n / 128 % 128 + 128, n / 128 / 128] := by
        unfold putN; rw [if_neg h1]; unfold putN; rw [if_neg (by omega)]; unfold putN; rw [if_pos (by omega)]
      rw [hp] at hx
      simp only [List.mem_cons, List.not_mem_nil, or_false] at hx
      omega

/-- sections as bytes -/
def catS : List Sect → List Int
  | [] => []
  | s :: l => s.1 % 256 :: (putN 9 s.2.1.length ++ (s.2.1 ++ catS l))

theorem catS_app (a b : List Sect) : catS (a ++ b) = catS a ++ catS b := by
  induction a with
  | nil => rfl
  | cons s a ih => simp only [List.cons_append, catS, ih, List.append_assoc]

theorem joinS_ok : ∀ (l : List Sect) (out : List Int), (joinS l out).2 = 0 → (joinS l out).1 = out ++ catS l
  | [], out, _ => by simp [joinS, catS]
  | s :: l, out, h => by
    unfold joinS at h ⊢
    by_cases h1 : s.2.1.length > 65536
    · rw [if_pos h1] at h; cases h
    · rw [if_neg h1] at h ⊢
      by_cases h2 : (putS out s).length > 65536
      · rw [if_pos h2] at h; cases h
      · rw [if_neg h2] at h ⊢
        rw [joinS_ok l _ h]
        simp [putS, catS]

theorem joinS_fits : ∀ (l : List Sect) (out : List Int), (out ++ catS l).length ≤ 65536 → joinS l out = (out ++ catS l, 0)
  | [], out, _ => by simp [joinS, catS]
  | s :: l, out, h => by
    have e : putS out s ++ catS l = out ++ catS (s :: l) := by simp [putS, catS]
    have h2 := h
    rw [← e, List.length_append] at h2
    have h3 : s.2.1.length ≤ (putS out s).length := by simp [putS]; omega
    unfold joinS
    rw [if_neg (by omega), if_neg (by omega), joinS_fits l _ (by rw [e]; exact h), e]

theorem rk_in {id : Int} (h : 0 ≤ rk id) : 0 ≤ id ∧ id ≤ 12 := by
  unfold rk at h
  split at h
  · omega
  · split at h
    · omega
    · split at h
      · omega
      · split at h
        · omega
        · split at h <;> omega

theorem ordS_ids : ∀ (l : List Sect) (last : Int), 0 ≤ last → ordS l last = true → ∀ s ∈ l, 0 ≤ s.1 ∧ s.1 ≤ 12
  | [], _, _, _, s, hs => by cases hs
  | t :: l, last, h0, h, s, hs => by
    unfold ordS at h
    by_cases h1 : rk t.1 = 0
    · rw [if_pos h1] at h
      rcases List.mem_cons.1 hs with rfl | hs
      · exact rk_in (by omega)
      · exact ordS_ids l last h0 h s hs
    · rw [if_neg h1] at h
      by_cases h2 : rk t.1 ≤ last
      · rw [if_pos h2] at h; cases h
      · rw [if_neg h2] at h
        rcases List.mem_cons.1 hs with rfl | hs
        · exact rk_in (by omega)
        · exact ordS_ids l (rk t.1) (by omega) h s hs

theorem ordS_more (x : List Int) : ∀ (a b : List Sect) (last : Int), ordS (a ++ (0, (x, ())) :: b) last = ordS (a ++ b) last
  | [], b, last => by
    show ordS ((0, (x, ())) :: b) last = _
    unfold ordS
    rw [if_pos (show rk 0 = 0 from rfl)]
    cases b <;> rfl
  | s :: a, b, last => by
    simp only [List.cons_append, ordS]
    rw [ordS_more x a b, ordS_more x a b]

theorem bytes_cat : ∀ (l : List Sect), (∀ s ∈ l, (∀ n ∈ s.2.1, IntKind.u8.has n) ∧ s.2.1.length < 2097152) → ∀ n ∈ catS l, IntKind.u8.has n
  | [], _, n, hn => by cases hn
  | s :: l, h, n, hn => by
    simp only [catS, List.mem_cons, List.mem_append] at hn
    obtain ⟨h1, h2⟩ := h s (by simp)
    rcases hn with rfl | hn | hn | hn
    · show (0 : Int) ≤ _ ∧ _ ≤ (255 : Int); omega
    · exact bytes_put9 _ (by omega) (by omega) n hn
    · exact h1 n hn
    · exact bytes_cat l (fun t ht => h t (by simp [ht])) n hn

theorem splitS_cat : ∀ (l : List Sect) (f : Nat) (last : Int), (catS l).length < f → ordS l last = true → (∀ s ∈ l, 0 ≤ s.1 ∧ s.1 ≤ 12 ∧ s.2.1.length < 2097152) → splitS f (catS l) last = (l, 0)
  | [], f, last, hf, _, _ => by
    cases f with
    | zero => rfl
    | succ f => rfl
  | s :: l, 0, last, hf, _, _ => by simp at hf
  | s :: l, f + 1, last, hf, ho, hs => by
    obtain ⟨h1, h2, h3⟩ := hs s (by simp)
    have hp := putN_len 9 (s.2.1.length : Int)
    simp only [catS, List.length_cons, List.length_append] at hf
    have hid : s.1 % 256 = s.1 := by omega
    have hu := u32_put s.2.1.length (s.2.1 ++ catS l) (by omega) (by omega)
    simp only [catS, splitS]
    rw [hid, hu]
    unfold ordS at ho
    have key : ∀ last', ordS l last' = true → splitS f (catS l) last' = (l, 0) := fun last' ho' => splitS_cat l f last' (by omega) ho' (fun t ht => hs t (by simp [ht]))
    have hd1 : (putN 9 (s.2.1.length : Int) ++ (s.2.1 ++ catS l)).drop ((putN 9 (s.2.1.length : Int)).length : Int).toNat = s.2.1 ++ catS l := by
      rw [Int.toNat_natCast, List.drop_left]
    have hd2 : (putN 9 (s.2.1.length : Int) ++ (s.2.1 ++ catS l)).drop (((putN 9 (s.2.1.length : Int)).length : Int).toNat + (s.2.1.length : Int).toNat) = catS l := by
      rw [← List.drop_drop, hd1, Int.toNat_natCast, List.drop_left]
    simp only [hd1, hd2]
    have ht : (s.2.1 ++ catS l).take (s.2.1.length : Int).toNat = s.2.1 := by rw [Int.toNat_natCast, List.take_left]
    rw [ht]
    have hlen : ¬ ((s.2.1.length : Int) > ((putN 9 (s.2.1.length : Int) ++ (s.2.1 ++ catS l)).length : Int) - ((putN 9 (s.2.1.length : Int)).length : Int)) := by
      simp only [List.length_append]
      omega
    by_cases h0 : rk s.1 = 0
    · rw [if_pos h0] at ho
      rw [if_neg (fun hc => hc.1 h0), if_neg (by simp), if_neg hlen, if_pos h0, key last ho]
    · rw [if_neg h0] at ho
      by_cases hle : rk s.1 ≤ last
      · rw [if_pos hle] at ho; cases ho
      · rw [if_neg hle] at ho
        rw [if_neg (fun hc => hle hc.2), if_neg (by simp), if_neg hlen, if_neg h0, key _ ho]

theorem splitL_cat (l : List Sect) (ho : ordS l 0 = true) (hs : ∀ s ∈ l, s.2.1.length < 2097152) (hl : (magicL ++ catS l).length ≤ 65536) : splitL fuel64 (magicL ++ catS l) = (l, 0) := by
  unfold splitL
  have h1 : hdrS magicL (magicL ++ catS l) = 0 := by simp [hdrS, magicL]
  have h2 : (magicL ++ catS l).drop 8 = catS l := rfl
  have h3 : (magicL ++ catS l).length = 8 + (catS l).length := by rw [List.length_append]; rfl
  rw [if_neg (by omega), if_pos h1, h2]
  exact splitS_cat l fuel64 0 (lt_fuel (by omega)) ho (fun s hs' => ⟨(ordS_ids l 0 (by omega) ho s hs').1, (ordS_ids l 0 (by omega) ho s hs').2, hs s hs'⟩)

/-- sections that a look is taken at -/
def shortOk (l : List Sect) : Prop := l.length ≤ 40 ∧ ∀ s ∈ l, s.2.1.length ≤ 70000

theorem lsh {R : Type} (kr : Bool → Option R) (ke : Int → Option R) (l : List Sect) (hl : l.length ≤ 40) (res : R) (hr : kr false = some res) (hk : (∀ s ∈ l, s.2.1.length ≤ 70000) → ∀ n, ke n = some res) : ∀ (n i : Nat) (a : Int), i ≤ l.length → l.length - i < n → (∀ s ∈ l.take i, s.2.1.length ≤ 70000) →
    loopN (B_ref07_Short_5 kr ke) n ⟨l, a, i⟩ = some res := by
  intro n
  induction n with
  | zero => intro i _ _ h; omega
  | succ n ih =>
    intro i a hi hn ht
    rw [loop_succ]
    generalize loopN (B_ref07_Short_5 kr ke) n = rec at ih ⊢
    unfold B_ref07_Short_5
    simp only [cond_dec, cond_inB]
    by_cases h : i = l.length
    · rw [if_neg (by omega)]
      refine hk ?_ a
      rwa [h, List.take_length] at ht
    · have hi' : i < l.length := by omega
      have hg : l.getD i ((0 : Int), (([] : List Int), ())) = l[i] := by simp [List.getD, hi']
      rw [if_pos (by omega), if_pos (by omega), Int.toNat_natCast, hg]
      by_cases hb : (l[i].2.1.length : Int) > 70000
      · rw [if_pos hb, hr]
      · rw [if_neg hb, if_pos (by omega), w_i64 (n := (i : Int) + 1) (by omega), show ((i : Int) + 1) = ((i + 1 : Nat) : Int) by omega]
        refine ih (i + 1) _ (by omega) (by omega) fun s hs => ?_
        rw [List.take_succ_eq_append_getElem hi'] at hs
        rcases List.mem_append.1 hs with hs | hs
        · exact ht s hs
        · rw [List.mem_singleton.1 hs]; omega

/-- where 'Short' stands ahead -/
theorem short_then {R : Type} (l : List Sect) (K : Bool → Option R) (res : R) (h0 : K false = some res) (h1 : shortOk l → K true = some res) : p_ref07_Short l K = some res := by
  unfold p_ref07_Short
  simp only [cond_dec]
  by_cases h : (l.length : Int) > 40
  · rw [if_pos h, h0]
  · rw [if_neg h]
    refine lsh _ _ l (by omega) res h0 (fun hs n => ?_) fuel64 0 0 (by omega) (lt_fuel (by omega)) (by simp)
    by_cases hn : n ≤ 80000
    · simp only [hn, decide_true]; exact h1 ⟨by omega, hs⟩
    · simp only [hn, decide_false]; exact h0

end Go.Trm.G1
