import Derived.Test.YthidebepdpkgkaaTrmPSect
import Derived.Test.YthidebepdpkgkaaTrmPRefLeb
import Derived.Test.YthidebepdpkgkaaTrmPRefUtf
set_option linter.unusedVariables false
set_option linter.unusedSimpArgs false
namespace Go.Trm.G1

def plc (id : Int) : Int := if id = 12 then 95 else id * 10

theorem place_eq {R : Type} (id : Int) (K : Int → Option R) (h : 0 ≤ id ∧ id ≤ 255) : p_ref07_place id K = K (plc id) := by
  unfold p_ref07_place plc
  simp only [cond_eq]
  by_cases h12 : id = 12
  · rw [if_pos h12, if_pos h12]
  · rw [if_neg h12, if_neg h12, w_i64 (by omega)]

/-- an earlier section stands in the way -/
def bars (id : Int) (s : Sect) : Bool := decide (id ≠ 0) && (decide (s.1 ≠ 0) && decide (plc id ≤ plc s.1))

def sD : Sect := ((0 : Int), (([] : List Int), ()))

theorem lmay {R : Type} (kr : Bool → Option R) (ke : Option R) (out : List Sect) (id : Int) (hid : 0 ≤ id ∧ id ≤ 255) (ho : ∀ s ∈ out, 0 ≤ s.1 ∧ s.1 ≤ 255) (hl : out.length ≤ 4294967296) : ∀ (n i : Nat), i ≤ out.length → out.length - i < n →
    loopN (B_ref07_may_4 kr ke) n ⟨out, id, i⟩ = if (out.drop i).any (bars id) = true then kr false else ke := by
  intro n
  induction n with
  | zero => intro i _ h; omega
  | succ n ih =>
    intro i hi hn
    rw [loop_succ]
    generalize loopN (B_ref07_may_4 kr ke) n = rec at ih ⊢
    unfold B_ref07_may_4
    simp only [cond_dec, cond_inB, cond_ne]
    by_cases h : i = out.length
    · rw [if_neg (by omega), List.drop_eq_nil_of_le (by omega)]
      rfl
    · have hi' : i < out.length := by omega
      have hg : out.getD i ((0 : Int), (([] : List Int), ())) = out[i] := by simp [List.getD, hi']
      have hs := ho _ (List.getElem_mem hi')
      rw [if_pos (by omega), List.drop_eq_getElem_cons hi', List.any_cons]
      have hrec : rec ⟨out, id, IntKind.i64.wrap ((i : Int) + 1)⟩ = if (out.drop (i + 1)).any (bars id) = true then kr false else ke := by
        rw [w_i64 (by omega), show ((i : Int) + 1) = ((i + 1 : Nat) : Int) by omega, ih (i + 1) (by omega) (by omega)]
      rw [if_pos (show (0 : Int) ≤ (i : Int) ∧ (i : Int) < (out.length : Int) by omega), Int.toNat_natCast, hg, hrec]
      by_cases h0 : id = 0
      · have hb : bars id out[i] = false := by simp [bars, h0]
        rw [if_pos h0, hb, Bool.false_or]
      · rw [if_neg h0]
        by_cases hs0 : out[i].1 = 0
        · have hb : bars id out[i] = false := by simp [bars, hs0]
          rw [if_pos hs0, hb, Bool.false_or]
        · rw [if_neg hs0, if_pos (show (0 : Int) ≤ (i : Int) ∧ (i : Int) < (out.length : Int) by omega), place_eq _ _ hs, place_eq _ _ hid]
          by_cases hp : plc out[i].1 ≥ plc id
          · have hb : bars id out[i] = true := by simp [bars, h0, hs0, hp]
            rw [if_pos hp, hb, Bool.true_or, if_pos rfl]
          · have hb : bars id out[i] = false := by simp [bars]; omega
            rw [if_neg hp, hb, Bool.false_or]

/-- where the sections stand in order -/
structure InvS (out : List Sect) (last : Int) : Prop where
  l0 : 0 ≤ last
  ids : ∀ s ∈ out, 0 ≤ s.1 ∧ s.1 ≤ 12 ∧ (s.1 ≠ 0 → rk s.1 ≤ last)
  top : last = 0 ∨ ∃ s ∈ out, s.1 ≠ 0 ∧ rk s.1 = last

theorem rk_pos {id : Int} (h : 1 ≤ id ∧ id ≤ 12) : 1 ≤ rk id := by
  unfold rk
  rw [if_neg (by omega)]
  by_cases h1 : 1 ≤ id ∧ id ≤ 9
  · rw [if_pos h1]; omega
  · rw [if_neg h1]
    by_cases h2 : id = 12
    · rw [if_pos h2]; omega
    · rw [if_neg h2]
      by_cases h3 : id = 10
      · rw [if_pos h3]; omega
      · rw [if_neg h3, if_pos (by omega)]; omega
theorem rk_none {id : Int} (h : 12 < id) : rk id = -1 := by
  unfold rk
  rw [if_neg (by omega), if_neg (by omega), if_neg (by omega), if_neg (by omega), if_neg (by omega)]

theorem rk_plc : ∀ a b : Fin 13, (1 ≤ a.val ∧ 1 ≤ b.val) → (rk a.val ≤ rk b.val ↔ plc a.val ≤ plc b.val) := by decide +kernel
theorem rk_plc' {a b : Int} (ha : 1 ≤ a ∧ a ≤ 12) (hb : 1 ≤ b ∧ b ≤ 12) : rk a ≤ rk b ↔ plc a ≤ plc b := by
  obtain ⟨x, rfl⟩ := Int.eq_ofNat_of_zero_le (by omega : 0 ≤ a)
  obtain ⟨y, rfl⟩ := Int.eq_ofNat_of_zero_le (by omega : 0 ≤ b)
  exact rk_plc ⟨x, by omega⟩ ⟨y, by omega⟩ ⟨by simp only; omega, by simp only; omega⟩

theorem may_eq {R : Type} (out : List Sect) (last id : Int) (K : Bool → Option R) (hI : InvS out last) (hid : 0 ≤ id ∧ id ≤ 255) (hl : out.length ≤ 4294967296) : p_ref07_may out id K = if rk id ≠ 0 ∧ rk id ≤ last then K false else K true := by
  unfold p_ref07_may
  simp only [cond_dec]
  rw [if_neg (by omega)]
  by_cases h12 : id > 12
  · rw [if_pos h12, if_pos]
    rw [rk_none h12]
    have := hI.l0
    omega
  · rw [if_neg h12]
    have := lmay K (K true) out id hid (fun s hs => by have := hI.ids s hs; omega) hl fuel64 0 (by omega) (lt_fuel (by omega))
    rw [List.drop_zero] at this
    refine this.trans ?_
    by_cases h0 : id = 0
    · have hb : out.any (bars id) = false := by
        rw [List.any_eq_false]
        intro s _
        simp [bars, h0]
      rw [hb, if_neg (by decide), if_neg]
      rw [h0]
      exact fun h => h.1 rfl
    · have hrp := rk_pos (id := id) (by omega)
      by_cases hle : rk id ≤ last
      · have hb : out.any (bars id) = true := by
          rw [List.any_eq_true]
          rcases hI.top with ht | ⟨s, hs, hs0, hst⟩
          · omega
          · have hsi := hI.ids s hs
            refine ⟨s, hs, ?_⟩
            have := (rk_plc' (a := id) (b := s.1) (by omega) (by omega)).1 (by omega)
            simp [bars, h0, hs0, this]
        rw [hb, if_pos rfl, if_pos ⟨by omega, hle⟩]
      · have hb : out.any (bars id) = false := by
          rw [List.any_eq_false]
          intro s hs hc
          simp only [bars, Bool.and_eq_true, decide_eq_true_eq] at hc
          have hsi := hI.ids s hs
          have := (rk_plc' (a := id) (b := s.1) (by omega) (by omega)).2 hc.2.2
          have := hsi.2.2 hc.2.1
          omega
        rw [hb, if_neg (by decide), if_neg (fun h => hle h.2)]

theorem InvS.push {out : List Sect} {last id : Int} {x : List Int} (hI : InvS out last) (hid : 0 ≤ id ∧ id ≤ 255) (hok : ¬ (rk id ≠ 0 ∧ rk id ≤ last)) : InvS (out ++ [(id, (x, ()))]) (if rk id = 0 then last else rk id) := by
  have h12 : id ≤ 12 := by
    by_cases h : 12 < id
    · exact absurd ⟨by rw [rk_none h]; decide, by rw [rk_none h]; have := hI.l0; omega⟩ hok
    · omega
  have hl0 := hI.l0
  by_cases h0 : id = 0
  · subst h0
    rw [if_pos (show rk 0 = 0 from rfl)]
    refine ⟨hI.l0, fun s hs => ?_, ?_⟩
    · rcases List.mem_append.1 hs with hs | hs
      · exact hI.ids s hs
      · rw [List.mem_singleton.1 hs]
        exact ⟨Int.le_refl _, show (0 : Int) ≤ 12 by decide, fun h => absurd rfl h⟩
    · rcases hI.top with h | ⟨s, hs, h⟩
      · exact .inl h
      · exact .inr ⟨s, List.mem_append.2 (.inl hs), h⟩
  · have hrp := rk_pos (id := id) (by omega)
    rw [if_neg (by omega)]
    have hlt : last < rk id := by
      by_cases h : last < rk id
      · exact h
      · exact absurd ⟨by omega, by omega⟩ hok
    refine ⟨by omega, fun s hs => ?_, .inr ⟨_, List.mem_append.2 (.inr (List.mem_singleton.2 rfl)), h0, rfl⟩⟩
    rcases List.mem_append.1 hs with hs | hs
    · have := hI.ids s hs
      exact ⟨this.1, this.2.1, fun h => by have := this.2.2 h; omega⟩
    · rw [List.mem_singleton.1 hs]
      exact ⟨hid.1, h12, fun _ => Int.le_refl _⟩

theorem copy_eq {R : Type} (x : List Int) (K : List Int → Option R) (h : x.length ≤ most) : p_ref01_Copy x K = K x := by
  unfold p_ref01_Copy
  simp only [cond_dec, List.replicate_zero, List.nil_append, List.length_nil, Nat.zero_add]
  rw [if_pos h]

theorem rng_mid (l : List Int) (a b : Nat) : rng l (a : Int) ((a + b : Nat) : Int) = (l.drop a).take b := by
  unfold rng
  rw [Int.toNat_natCast, Int.toNat_natCast, List.drop_take]
  congr 1
  omega

theorem lrs {R : Type} (kr : List Sect → Int → Option R) (ke : List Sect → Option R) (b : List Int) (hb : bytes b) (hbl : b.length ≤ 70000) : ∀ (n i : Nat) (out : List Sect) (last : Int), i ≤ b.length → b.length - i < n → InvS out last → out.length ≤ i →
    loopN (B_ref07_Split_13 kr ke) n ⟨b, out, i⟩ = endS kr ke out (splitS n (b.drop i) last) := by
  intro n
  induction n with
  | zero => intro i out last _ h; omega
  | succ n ih =>
    intro i out last hi hn hI ho
    have hmost : most = 4294967296 := rfl
    rw [loop_succ]
    generalize loopN (B_ref07_Split_13 kr ke) n = rec at ih ⊢
    unfold B_ref07_Split_13
    simp only [cond_dec, cond_inB, cond_inR, cond_ne, cond_not]
    by_cases h : i = b.length
    · rw [if_neg (by omega), List.drop_eq_nil_of_le (by omega)]
      unfold endS splitS
      rw [if_pos rfl, List.append_nil]
    · have hi' : i < b.length := by omega
      have hg : b.getD i 0 = b[i] := by simp [List.getD, hi']
      have hid := hb i
      rw [hg] at hid
      rw [if_pos (by omega), if_pos (by omega), Int.toNat_natCast, hg, w_i64 (n := b[i]) (by omega), may_eq _ _ _ _ hI hid (by omega), List.drop_eq_getElem_cons hi']
      generalize b[i] = id at hid ⊢
      unfold splitS
      have hbr : bytes (b.drop (i + 1)) := bytes_drop hb _
      have hrl : (b.drop (i + 1)).length = b.length - (i + 1) := List.length_drop
      by_cases hle : rk id ≠ 0 ∧ rk id ≤ last
      · rw [if_pos hle, if_pos hle]
        unfold endS
        rw [if_neg (show ¬ (([], 2) : List Sect × Int).2 = 0 by decide), List.append_nil]
        rfl
      · rw [if_neg hle, if_neg hle]
        simp only [cond_true]
        rw [w_i64 (n := (i : Int) + 1) (by omega), if_pos (by omega), rng_end, show ((i : Int) + 1).toNat = i + 1 by omega, p35_eq _ _ hbr (by omega)]
        by_cases he : (u32 (b.drop (i + 1))).2.2 = 0
        · obtain ⟨q1, q2, q3, q4⟩ := u32_ok hbr he
          rw [hrl] at q4
          rw [if_pos he, if_neg (show ¬ (u32 (b.drop (i + 1))).2.2 ≠ 0 from fun h => h he)]
          have hpush := fun x => hI.push (x := x) hid hle
          generalize (u32 (b.drop (i + 1))).1 = v at *
          generalize (u32 (b.drop (i + 1))).2.1 = k at *
          rw [w_i64 (n := 1 + k) (by omega), w_i64 (n := (i : Int) + (1 + k)) (by omega), w_i64 (n := (b.length : Int) - ((i : Int) + (1 + k))) (by omega), w_u64 (n := (b.length : Int) - ((i : Int) + (1 + k))) (by omega), hrl]
          by_cases hv : (b.length : Int) - ((i : Int) + (1 + k)) < v
          · rw [if_pos hv, if_pos (by omega)]
            unfold endS
            rw [if_neg (show ¬ (([], 1) : List Sect × Int).2 = 0 by decide), List.append_nil]
          · rw [if_neg hv, w_i64 (n := v) (by omega), w_i64 (n := (i : Int) + (1 + k) + v) (by omega), if_pos (by omega), if_neg (show ¬ v > ((b.length - (i + 1) : Nat) : Int) - k by omega)]
            obtain ⟨kn, rfl⟩ := Int.eq_ofNat_of_zero_le (by omega : 0 ≤ k)
            obtain ⟨vn, rfl⟩ := Int.eq_ofNat_of_zero_le q1
            have e1 : rng b ((i : Int) + (1 + (kn : Int))) ((i : Int) + (1 + (kn : Int)) + (vn : Int)) = ((b.drop (i + 1)).drop kn).take vn := by
              rw [show ((i : Int) + (1 + (kn : Int))) = ((i + 1 + kn : Nat) : Int) by omega, show (((i + 1 + kn : Nat) : Int) + (vn : Int)) = ((i + 1 + kn + vn : Nat) : Int) by omega, rng_mid, List.drop_drop]
            have hset : ∀ x : List Int, (List.replicate 1 ((0 : Int), (([] : List Int), ()))).set 0 (id, (x, ())) = [(id, (x, ()))] := fun _ => rfl
            rw [e1, copy_eq _ _ (by rw [List.length_take, List.length_drop]; omega), hset, if_pos (by simp; omega), Int.toNat_natCast, Int.toNat_natCast, show ((i : Int) + (1 + (kn : Int)) + (vn : Int)) = ((i + 1 + (kn + vn) : Nat) : Int) by omega,
              ih (i + 1 + (kn + vn)) _ _ (by omega) (by omega) (hpush _) (by rw [List.length_append]; simp; omega), List.drop_drop]
            unfold endS
            simp only [List.append_assoc, List.singleton_append, List.drop_drop]
        · rw [if_neg he, if_pos he]
          unfold endS
          rw [if_neg he, List.append_nil]

theorem lrh {R : Type} (kr : List Sect → Int → Option R) (ke : List Int → Option R) (b : List Int) (M : List UInt8) (hM : M.length = 8) (hb : b.length ≤ 4611686018427387904) : ∀ (n i : Nat), i ≤ 8 → i ≤ b.length → 8 - i < n →
    loopN (B_ref07_Split_5 kr ke) n ⟨b, M, i⟩ = if hdrS ((nums M).drop i) (b.drop i) = 0 then ke b else kr [] (hdrS ((nums M).drop i) (b.drop i)) := by
  intro n
  induction n with
  | zero => intro i _ _ h; omega
  | succ n ih =>
    intro i hi hib hn
    have hMn := nums_len M
    rw [loop_succ]
    generalize loopN (B_ref07_Split_5 kr ke) n = rec at ih ⊢
    unfold B_ref07_Split_5
    simp only [cond_dec, cond_inB, cond_ne, cond_eq]
    by_cases h : i = 8
    · rw [if_neg (by omega), List.drop_eq_nil_of_le (show (nums M).length ≤ i by omega)]
      rfl
    · have hi' : i < (nums M).length := by omega
      have hg : (nums M).getD i 0 = (nums M)[i] := by simp [List.getD, hi']
      rw [if_pos (by omega), List.drop_eq_getElem_cons hi']
      by_cases hbl : i = b.length
      · rw [if_pos (by omega), List.drop_eq_nil_of_le (show b.length ≤ i by omega)]
        rfl
      · have hb' : i < b.length := by omega
        have hgb : b.getD i 0 = b[i] := by simp [List.getD, hb']
        rw [if_neg (by omega), if_pos (by omega), if_pos (by omega), bt_nums, Int.toNat_natCast, hg, hgb, List.drop_eq_getElem_cons hb']
        unfold hdrS
        by_cases hx : b[i] = (nums M)[i]
        · rw [if_pos hx, if_pos hx, w_i64 (by omega), show ((i : Int) + 1) = ((i + 1 : Nat) : Int) by omega, ih (i + 1) (by omega) (by omega) (by omega)]
        · rw [if_neg hx, if_neg hx, if_neg (by decide)]

theorem refsplit_eq {R : Type} (b : List Int) (K : List Sect → Int → Option R) (hb : bytes b) (hl : b.length ≤ 70000) : p_ref07_Split b K = K (splitL fuel64 b).1 (splitL fuel64 b).2 := by
  unfold p_ref07_Split splitL
  simp only [cond_dec]
  by_cases h4 : b.length > 65536
  · rw [if_pos (by omega), if_pos h4]
  · rw [if_neg (by omega), if_neg h4]
    have := lrh K (fun w6 => loopN (B_ref07_Split_13 (fun w7 w8 => K w7 w8) (fun w9 => K w9 (0 : Int))) (fuel_ref07_Split_13 ⟨w6, ([] : List Sect), (8 : Int)⟩) ⟨w6, ([] : List Sect), (8 : Int)⟩) b ([0, 97, 115, 109, 1, 0, 0, 0] : List UInt8) rfl (by omega) fuel64 0 (by omega) (by omega) (lt_fuel (by omega))
    rw [List.drop_zero, List.drop_zero, show nums ([0, 97, 115, 109, 1, 0, 0, 0] : List UInt8) = magicL from rfl] at this
    refine this.trans ?_
    by_cases hh : hdrS magicL b = 0
    · have h8 : 8 ≤ b.length := hdr_len hh
      rw [if_pos hh, if_pos hh]
      unfold fuel_ref07_Split_13
      refine (lrs _ _ b hb hl fuel64 8 [] 0 h8 (lt_fuel (by omega)) ⟨Int.le_refl _, fun s hs => by simp at hs, .inl rfl⟩ (by simp)).trans ?_
      unfold endS
      by_cases he : (splitS fuel64 (b.drop 8) 0).2 = 0
      · rw [if_pos he, List.nil_append, he]
      · rw [if_neg he, List.nil_append]
    · rw [if_neg hh, if_neg hh]

/-! told, Same -/

theorem ltd {R : Type} (ke : List Sect → Option R) (l : List Sect) (hl : l.length ≤ 1000000) : ∀ (n i : Nat) (out : List Sect), i ≤ l.length → l.length - i < n → out.length = i →
    loopN (B_law07_told_3 ke) n ⟨l, out, i⟩ = ke (out ++ l.drop i) := by
  intro n
  induction n with
  | zero => intro i _ _ h; omega
  | succ n ih =>
    intro i out hi hn ho
    have hmost : most = 4294967296 := rfl
    rw [loop_succ]
    generalize loopN (B_law07_told_3 ke) n = rec at ih ⊢
    unfold B_law07_told_3
    simp only [cond_dec, cond_inB]
    by_cases h : i = l.length
    · rw [if_neg (by omega), List.drop_eq_nil_of_le (by omega), List.append_nil]
    · have hi' : i < l.length := by omega
      have hg : l.getD i ((0 : Int), (([] : List Int), ())) = l[i] := by simp [List.getD, hi']
      have hset : (List.replicate 1 ((0 : Int), (([] : List Int), ()))).set 0 (l[i].1, (l[i].2.1, ())) = [l[i]] := rfl
      rw [if_pos (by omega), if_pos (by omega), if_pos (by omega), Int.toNat_natCast, hg, hset, if_pos (by simp; omega), w_i64 (by omega), show ((i : Int) + 1) = ((i + 1 : Nat) : Int) by omega,
        ih (i + 1) _ (by omega) (by omega) (by rw [List.length_append]; simp; omega), List.drop_eq_getElem_cons hi', List.append_assoc]
      rfl
theorem told_eq {R : Type} (l : List Sect) (K : List Sect → Option R) (hl : l.length ≤ 1000000) : p_law07_told l K = K l := by
  unfold p_law07_told
  exact (ltd K l hl fuel64 0 [] (by omega) (lt_fuel (by omega)) rfl).trans (by rw [List.drop_zero, List.nil_append])

theorem lsm {R : Type} (kr : Bool → Option R) (ke : Option R) (a b : List Sect) (hab : a.length = b.length) (hl : a.length ≤ 1000000) (hs : ∀ s ∈ a, s.2.1.length ≤ 4611686018427387904) : ∀ (n i : Nat), i ≤ a.length → a.length - i < n →
    loopN (B_ref07_Same_4 kr ke) n ⟨a, b, i⟩ = if a.drop i = b.drop i then ke else kr false := by
  intro n
  induction n with
  | zero => intro i _ h; omega
  | succ n ih =>
    intro i hi hn
    rw [loop_succ]
    generalize loopN (B_ref07_Same_4 kr ke) n = rec at ih ⊢
    unfold B_ref07_Same_4
    simp only [cond_dec, cond_inB, cond_ne, cond_not]
    by_cases h : i = a.length
    · rw [if_neg (by omega), List.drop_eq_nil_of_le (by omega), List.drop_eq_nil_of_le (by omega), if_pos rfl]
    · have hia : i < a.length := by omega
      have hib : i < b.length := by omega
      have ga : a.getD i ((0 : Int), (([] : List Int), ())) = a[i] := by simp [List.getD, hia]
      have gb : b.getD i ((0 : Int), (([] : List Int), ())) = b[i] := by simp [List.getD, hib]
      have hsi := hs _ (List.getElem_mem hia)
      rw [if_pos (by omega), if_pos (by omega), if_pos (by omega), Int.toNat_natCast, ga, gb, List.drop_eq_getElem_cons hia, List.drop_eq_getElem_cons hib]
      have hrec : rec ⟨a, b, IntKind.i64.wrap ((i : Int) + 1)⟩ = if a.drop (i + 1) = b.drop (i + 1) then ke else kr false := by
        rw [w_i64 (by omega), show ((i : Int) + 1) = ((i + 1 : Nat) : Int) by omega, ih (i + 1) (by omega) (by omega)]
      by_cases h1 : a[i].1 = b[i].1
      · rw [if_pos h1, if_pos (by omega), if_pos (by omega), p21_eq _ _ _ hsi]
        by_cases h2 : a[i].2.1 = b[i].2.1
        · rw [if_pos h2]
          simp only [cond_true]
          rw [hrec]
          have he : a[i] = b[i] := Prod.ext h1 (Prod.ext h2 rfl)
          by_cases h3 : a.drop (i + 1) = b.drop (i + 1)
          · rw [if_pos h3, he, h3, if_pos rfl]
          · rw [if_neg h3, if_neg (fun hc => h3 (List.cons.inj hc).2)]
        · rw [if_neg h2, if_neg (fun hc => h2 (by rw [(List.cons.inj hc).1]))]
          rfl
      · rw [if_neg h1, if_neg (fun hc => h1 (by rw [(List.cons.inj hc).1]))]
theorem same_eq {R : Type} (a b : List Sect) (K : Bool → Option R) (hl : a.length ≤ 1000000) (hs : ∀ s ∈ a, s.2.1.length ≤ 4611686018427387904) : p_ref07_Same a b K = if a = b then K true else K false := by
  unfold p_ref07_Same
  simp only [cond_ne]
  by_cases h : a.length = b.length
  · rw [if_pos (by omega)]
    have := lsm K (K true) a b h hl hs fuel64 0 (by omega) (lt_fuel (by omega))
    rw [List.drop_zero, List.drop_zero] at this
    exact this
  · rw [if_neg (by omega), if_neg (by rintro rfl; exact h rfl)]

theorem splitS_len : ∀ (n : Nat) (l : List Int) (last : Int), (splitS n l last).1.length ≤ l.length ∧ ∀ s ∈ (splitS n l last).1, s.2.1.length ≤ l.length
  | 0, l, last => by simp [splitS]
  | n + 1, [], last => by simp [splitS]
  | n + 1, id :: r, last => by
    unfold splitS
    split
    · simp
    · split
      · simp
      · split
        · simp
        · obtain ⟨h1, h2⟩ := splitS_len n (r.drop ((u32 r).2.1.toNat + (u32 r).1.toNat)) (if rk id = 0 then last else rk id)
          rw [List.length_drop] at h1 h2
          refine ⟨by simp only [List.length_cons]; omega, fun s hs => ?_⟩
          rcases List.mem_cons.1 hs with hs | hs
          · rw [hs]
            simp only [List.length_take, List.length_drop, List.length_cons]
            omega
          · have := h2 s hs
            simp only [List.length_cons]
            omega
theorem splitL_len (n : Nat) (b : List Int) : (splitL n b).1.length ≤ b.length ∧ ∀ s ∈ (splitL n b).1, s.2.1.length ≤ b.length := by
  unfold splitL
  split
  · simp
  · split
    · obtain ⟨h1, h2⟩ := splitS_len n (b.drop 8) 0
      rw [List.length_drop] at h1 h2
      exact ⟨by omega, fun s hs => by have := h2 s hs; omega⟩
    · simp

end Go.Trm.G1
