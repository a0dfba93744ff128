import Derived.Test.YthidebepdpkgkabTrmPRefName
import Derived.Test.YthidebepdpkgkabTrmPJoin
import Derived.Test.YthidebepdpkgkabTrmLift
set_option linter.unusedVariables false
set_option linter.unusedSimpArgs false
namespace Go.Trm.G1

theorem nameS_ok {l : List Int} (hb : bytes l) (h : (nameS l).2.2 = 0) : 0 ≤ (nameS l).2.1 ∧ (nameS l).2.1 ≤ l.length := by
  unfold nameS at h ⊢
  by_cases he : (u32 l).2.2 = 0
  · obtain ⟨q1, q2, q3, q4⟩ := u32_ok hb he
    have hne : ¬ (u32 l).2.2 ≠ 0 := fun h => h he
    rw [if_neg hne] at h
    rw [if_neg hne]
    by_cases h1 : (u32 l).1 > (l.length : Int) - (u32 l).2.1
    · rw [if_pos h1] at h; cases h
    · rw [if_neg h1] at h
      rw [if_neg h1]
      by_cases h2 : valid ((l.drop (u32 l).2.1.toNat).take (u32 l).1.toNat) = false
      · rw [if_pos h2] at h; cases h
      · rw [if_neg h2] at h
        rw [if_neg h2]
        by_cases h3 : (u32 l).1 > 64
        · rw [if_pos h3] at h; cases h
        · rw [if_neg h3]
          simp only
          omega
  · rw [if_pos he] at h
    exact absurd h he

theorem custom_eq {R : Type} (l : List Int) (K : (List UInt8) × (List Int) × Unit → Int → Option R) (hb : bytes l) (hl : l.length ≤ 100000) : p_sect_Custom l K = if (nameS l).2.2 = 0 then K ((nameS l).1, (l.drop (nameS l).2.1.toNat, ())) 0 else K (([], ([], ())) : (List UInt8) × (List Int) × Unit) (nameS l).2.2 := by
  have hmost : most = 4294967296 := rfl
  unfold p_sect_Custom
  rw [p22_eq l _ hb (by omega)]
  simp only [cond_ne, cond_inR]
  by_cases he : (nameS l).2.2 = 0
  · obtain ⟨h1, h2⟩ := nameS_ok hb he
    rw [if_pos he, if_pos he, if_pos (by omega), rng_end, p33_eq _ _ (by rw [List.length_drop]; omega)]
  · rw [if_neg he, if_neg he]
theorem refcustom_eq {R : Type} (l : List Int) (K : List UInt8 → List Int → Int → Option R) (hb : bytes l) (hl : l.length ≤ 100000) : p_ref07_Custom l K = if (nameS l).2.2 = 0 then K (nameS l).1 (l.drop (nameS l).2.1.toNat) 0 else K [] [] (nameS l).2.2 := by
  unfold p_ref07_Custom
  rw [p23_eq l _ hb (by omega)]
  simp only [cond_ne, cond_inR]
  by_cases he : (nameS l).2.2 = 0
  · obtain ⟨h1, h2⟩ := nameS_ok hb he
    rw [if_pos he, if_pos he, if_pos (by omega), rng_end]
  · rw [if_neg he, if_neg he]

theorem putcustom_eq {R : Type} (s : List UInt8) (x : List Int) (K : List Int → Int → Option R) (hs : s.length ≤ 100000) (hx : x.length ≤ 100000) : p_sect_PutCustom (s, (x, ())) K =
    if valid (nums s) = false then K [] 2 else if s.length > 64 then K [] 4 else K ((s.length : Int) :: (nums s ++ x)) 0 := by
  have hmost : most = 4294967296 := rfl
  unfold p_sect_PutCustom
  simp only
  rw [p24_eq _ _ _ (by simp) (by omega)]
  simp only [cond_ne, cond_dec]
  cases hv : valid (nums s) with
  | false => rfl
  | true =>
    simp only [Bool.true_eq_false, if_false]
    by_cases h64 : s.length > 64
    · rw [if_pos h64, if_pos h64]; rfl
    · have hp : putN 9 (s.length : Int) = [(s.length : Int)] := by
        unfold putN
        rw [if_pos (by omega)]
      rw [if_neg h64, if_neg h64, if_pos trivial, hp, List.nil_append, List.singleton_append, List.cons_append, if_pos (by simp [nums_len]; omega)]

/-- a name that was put is read -/
theorem name_put (s : List UInt8) (x : List Int) (hv : valid (nums s) = true) (h64 : ¬ s.length > 64) : nameS ((s.length : Int) :: (nums s ++ x)) = (s, 1 + (s.length : Int), 0) := by
  have hlen : ((s.length : Int) :: (nums s ++ x)).length = s.length + x.length + 1 := by simp [nums_len]
  have hu : u32 ((s.length : Int) :: (nums s ++ x)) = ((s.length : Int), 1, 0) := by
    unfold u32 raw
    rw [if_pos (by omega)]
    simp
  unfold nameS
  rw [hu]
  simp only
  have ht : (((s.length : Int) :: (nums s ++ x)).drop (1 : Int).toNat).take (s.length : Int).toNat = nums s := by
    show ((nums s ++ x)).take (s.length : Int).toNat = nums s
    rw [Int.toNat_natCast, ← nums_len s, List.take_left]
  rw [if_neg (by simp), if_neg (by rw [hlen]; omega), ht, if_neg (by rw [hv]; simp), if_neg (by omega), u8s_nums]

theorem bytes_put (s : List UInt8) (x : List Int) (hx : bytes x) (h64 : ¬ s.length > 64) : bytes ((s.length : Int) :: (nums s ++ x)) := fun i => by
  cases i with
  | zero => show 0 ≤ (s.length : Int) ∧ (s.length : Int) ≤ 255; omega
  | succ i =>
    show 0 ≤ (nums s ++ x).getD i 0 ∧ (nums s ++ x).getD i 0 ≤ 255
    by_cases hi : i < (nums s).length
    · rw [app_getD hi]; exact nums_get s i
    · have : (nums s ++ x).getD i 0 = x.getD (i - (nums s).length) 0 := by
        simp [List.getD_eq_getElem?_getD, List.getElem?_append_right (Nat.le_of_not_lt hi)]
      rw [this]
      exact hx _

theorem sect_customs (b : List Int) (s : List UInt8) (x : List Int) (hb : ∀ n ∈ b, IntKind.u8.has n) (hx : ∀ n ∈ x, IntKind.u8.has n) : p_law07_SectCustoms b (s, (x, ())) Yes = some () := by
  have hmost : most = 4294967296 := rfl
  have hby := u8_bytes hb
  have hbx := u8_bytes hx
  unfold p_law07_SectCustoms
  rw [awake07_eq]
  simp only [cond_not, cond_true, cond_inR, cond_dec, cond_ne, cond_eq]
  rw [show (3000 : Int) = ((3000 : Nat) : Int) from rfl, minI_nat, rng_to, if_pos (by omega)]
  have h1 : (b.take (min b.length 3000)).length ≤ 3000 := by rw [List.length_take]; omega
  have h3 := bytes_take hby (min b.length 3000)
  generalize b.take (min b.length 3000) = y at *
  by_cases hs : (s.length : Int) > 1000
  · rw [if_pos hs]
  · rw [if_neg hs]
    by_cases hxl : (x.length : Int) > ((3000 : Nat) : Int)
    · rw [if_pos hxl]
    · rw [if_neg hxl, custom_eq y _ h3 (by omega)]
      -- what comes behind the first half
      have rest : (p_sect_PutCustom (s, (x, ())) fun r19 r20 => p_ref02_Valid s fun r21 => bif r21 then
            (if (s.length : Int) > 64 then (if r20 = 0 then Yes false else if ((r19.length : Nat) : Int) = 0 then some () else none)
              else p_sect_Custom r19 fun r31 r32 => if r20 = 0 then (if r32 = 0 then (if r31.1 = s then p_ref01_Same r31.2.1 x fun r36 => Yes r36 else Yes false) else Yes false) else Yes false)
            else (if r20 = 0 then Yes false else if ((r19.length : Nat) : Int) = 0 then some () else none)) = some () := by
        rw [putcustom_eq s x _ (by omega) (by omega)]
        simp only [fun K => p12_eq (R := Unit) s K (by omega)]
        cases hv : valid (nums s) with
        | false => rfl
        | true =>
          simp only [Bool.true_eq_false, if_false, if_true, cond_true]
          by_cases h64 : s.length > 64
          · rw [if_pos h64, if_pos (by omega)]; rfl
          · have hl : ((s.length : Int) :: (nums s ++ x)).length = s.length + x.length + 1 := by simp [nums_len]
            rw [if_neg h64, if_neg (by omega), custom_eq _ _ (bytes_put s x hbx h64) (by rw [hl]; omega), name_put s x hv h64]
            have hd : ((s.length : Int) :: (nums s ++ x)).drop (1 + (s.length : Int)).toNat = x := by
              rw [show (1 + (s.length : Int)).toNat = s.length + 1 by omega, List.drop_succ_cons, ← nums_len s, List.drop_left]
            simp only [if_true, hd]
            rw [p21_eq _ _ _ (by omega), if_pos rfl]
            rfl
      by_cases he : (nameS y).2.2 = 0
      · rw [if_pos he, refcustom_eq y _ h3 (by omega), if_pos he, if_pos rfl, if_pos rfl]
        rw [p21_eq _ _ _ (by rw [List.length_drop]; omega), if_pos rfl]
        exact rest
      · rw [if_neg he, refcustom_eq y _ h3 (by omega), if_neg he, if_pos rfl, if_pos rfl]
        rw [p21_eq _ _ _ (by simp), if_pos rfl]
        exact rest

end Go.Trm.G1
