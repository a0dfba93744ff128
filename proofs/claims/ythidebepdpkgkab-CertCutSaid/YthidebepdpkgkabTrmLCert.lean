import Derived.Test.YthidebepdpkgkabTrmQRead
import Derived.Test.YthidebepdpkgkabTrmArgs
set_option linter.unusedVariables false
set_option linter.unusedSimpArgs false
namespace Go.Trm.G1

abbrev ClsTy : Ty := .sl 89 (.pair (.sl 86 (.sl 85 (.pair (.pair (.int .u64) (.pair (.int .u64) .unit)) (.pair (.pair (.int .i64) (.pair (.int .u64) .unit)) .unit)))) .unit)

theorem okM_of {l : List Cl} (h : okI ClsTy l) : okM l := fun c hc r hr a ha => by
  have h1 := ((h.2 c hc).1.2 r hr).2 a ha
  obtain ⟨⟨h2, h3, _⟩, ⟨h4, h5, _⟩, _⟩ := h1
  exact ⟨h2, h3, h4, h5⟩

theorem putN_in : ∀ (f : Nat) (n : Int), 0 ≤ n → n < 128 ^ (f + 1) → ∀ x ∈ putN f n, 0 ≤ x ∧ x ≤ 255 := by
  intro f
  induction f with
  | zero =>
    intro n h0 h1 x hx
    have h1' : n < 128 := h1
    simp [putN] at hx
    omega
  | succ f ih =>
    intro n h0 h1 x hx
    unfold putN at hx
    by_cases hn : n < 128
    · rw [if_pos hn] at hx; simp at hx; omega
    · rw [if_neg hn] at hx
      have hd : n / 128 < 128 ^ (f + 1) := Int.ediv_lt_of_lt_mul (by omega) (by rw [← p128]; exact h1)
      rcases List.mem_cons.1 hx with rfl | hx
      · omega
      · exact ih _ (by omega) hd x hx
theorem putNs_in : ∀ (l : List Int), (∀ v ∈ l, 0 ≤ v ∧ v ≤ 18446744073709551615) → ∀ x ∈ putNs l, 0 ≤ x ∧ x ≤ 255
  | [], _ => by simp [putNs]
  | n :: l, h => by
    intro x hx
    simp only [putNs, List.mem_append] at hx
    rcases hx with hx | hx
    · refine putN_in 9 n (h n (by simp)).1 ?_ x hx
      have : (128 : Int) ^ (9 + 1) = 1180591620717411303424 := by decide
      have := (h n (by simp)).2
      omega
    · exact putNs_in l (fun v hv => h v (by simp [hv])) x hx
theorem full_bytes {l : List Cl} (hl : (numsM l).length ≤ 1000000000) (hok : okM l) (hr : rightM l = true) : bytes (fullM l) := u8_bytes fun n hn => putNs_in _ (numsM_in l hl hok hr) n hn

def oneA : Ab := ((0, (255, ())), ((0, (0, ())), ()))
def oneL : List Cl := [([[oneA]], ())]
theorem okM_one : okM oneL := fun c hc r hr a ha => by
  simp only [oneL, List.mem_singleton] at hc
  subst hc
  simp only [List.mem_singleton] at hr
  subst hr
  simp only [List.mem_singleton] at ha
  subst ha
  exact ⟨by decide, by decide, by decide, by decide⟩
theorem one_right : rightM oneL = true := by decide +kernel
theorem one_long : longM oneL = false := by decide +kernel
theorem one_full : fullM oneL = [1, 1, 1, 0, 255, 1, 0, 0] := by decide +kernel

theorem awake21 {R : Type} (K : Bool → Option R) : p_law21_awake K = K true := by
  have hp : putS oneL = ([1, 1, 1, 0, 255, 1, 0, 0], 0) := by
    unfold putS
    rw [one_right, one_long, one_full]
    simp
  have hr : readS [1, 1, 1, 0, 255, 1, 0, 0] = (oneL, 0) := by
    rw [← one_full]
    exact read_full (okRM_of okM_one one_right one_long) (by rw [one_full]; decide)
  have hb : bytes [1, 1, 1, 0, 255, 1, 0, 0] := by
    rw [← one_full]
    exact full_bytes (by decide) okM_one one_right
  unfold p_law21_awake
  show p_cert_Put oneL _ = _
  rw [put_eq oneL _ okM_one (by decide), hp]
  show p_cert_Read [1, 1, 1, 0, 255, 1, 0, 0] _ = _
  rw [read_eq _ _ hb (by decide), hr]
  simp only [cond_eq, if_true]
  show p_ref01_Same [1, 1, 1, 0, 255, 1, 0, 0] [1, 1, 1, 0, 255, 1, 0, 0] _ = _
  rw [p21_eq _ _ _ (by decide), if_pos rfl]
  rfl

theorem cert_puts (l : List Cl) (h : okI ClsTy l) : p_law21_CertPuts l Yes = some () := by
  have hok := okM_of h
  unfold p_law21_CertPuts
  rw [awake21]
  simp only [cond_not, cond_true]
  rw [short_eq]
  cases hs : shortB l with
  | false => rfl
  | true =>
    simp only [cond_true]
    rw [put_eq l _ hok (short_sum hs), bytes_eq l _ hok (short_sum hs)]
    simp only [BEq.rfl, cond_true]
    have hlen : (putS l).1.length ≤ 4611686018427387904 := by
      have h1 := short_sum hs
      have h2 := putNs_len (numsM l)
      unfold putS
      split
      · split
        · simp
        · show (putNs (numsM l)).length ≤ _
          omega
      · simp
    rw [p21_eq _ _ _ hlen, if_pos rfl]
    rfl

theorem putS_ok {l : List Cl} (h : (putS l).2 = 0) : rightM l = true ∧ longM l = false ∧ (fullM l).length ≤ 65536 ∧ (putS l).1 = fullM l := by
  unfold putS at h ⊢
  by_cases h1 : rightM l = true
  · rw [if_pos h1] at h ⊢
    by_cases h2 : longM l = true ∨ 65536 < (fullM l).length
    · rw [if_pos h2] at h; cases h
    · rw [if_neg h2]
      refine ⟨h1, ?_, by omega, rfl⟩
      cases hh : longM l with
      | true => exact absurd (Or.inl hh) h2
      | false => rfl
  · rw [if_neg h1] at h; cases h

theorem back_read {R : Type} (x : List Int) (K : Bool → Option R) (hx : bytes x) (hl : x.length ≤ 4000) (kf : Option R) :
    (p_cert_Read x fun r16 r17 => cond (r17 != (0 : Int)) (K (((List.length r16 : Nat) : Int) == (0 : Int))) (p_cert_Put r16 fun r21 r22 => cond (r22 == (0 : Int)) (p_ref01_Same x r21 fun r24 => K r24) kf)) = K true := by
  rw [read_eq x _ hx (by omega)]
  simp only [cond_ne]
  by_cases he : (readS x).2 = 0
  · rw [if_pos he]
    obtain ⟨h1, h2⟩ := read_back hx he
    generalize (readS x).1 = m at h1 h2
    obtain ⟨g1, g2, g3⟩ := of_okRM h1
    have hlen := putNs_len (numsM m)
    have hfl : (putNs (numsM m)).length = x.length := by rw [← h2]; rfl
    rw [put_eq m _ g1 (by omega)]
    have hp : putS m = (x, 0) := by
      unfold putS
      rw [g2, g3, h2]
      simp
      omega
    rw [hp]
    simp only [cond_eq, if_true]
    rw [p21_eq _ _ _ (by omega), if_pos rfl]
  · rw [if_neg he, read_bad he]
    rfl

theorem rng_to0 (l : List Int) (k : Int) : rng l 0 k = l.take k.toNat := by
  unfold rng
  simp

theorem cert_back (l : List Cl) (b : List Int) (h : okI ClsTy l) (hb0 : b.length * 1 ≤ 140737488351232) (hb : ∀ n ∈ b, IntKind.u8.has n) : p_law21_CertBack l b Yes = some () := by
  have hok := okM_of h
  have hby := u8_bytes hb
  unfold p_law21_CertBack
  rw [awake21]
  simp only [cond_not, cond_true]
  have hmin : 0 ≤ minI (b.length : Int) 4000 ∧ minI (b.length : Int) 4000 ≤ b.length ∧ minI (b.length : Int) 4000 ≤ 4000 := by unfold minI; split <;> omega
  rw [cond_inR, if_pos (by omega), rng_to0]
  have hx := bytes_take hby (minI (b.length : Int) 4000).toNat
  have hxl : (b.take (minI (b.length : Int) 4000).toNat).length ≤ 4000 := by rw [List.length_take]; omega
  generalize b.take (minI (b.length : Int) 4000).toNat = x at hx hxl
  rw [short_eq]
  cases hs : shortB l with
  | false => rfl
  | true =>
    have hsum := short_sum hs
    have hlen := putNs_len (numsM l)
    simp only [cond_true]
    rw [put_eq l _ hok hsum]
    simp only [cond_eq]
    by_cases he : (putS l).2 = 0
    · rw [if_pos he]
      obtain ⟨h1, h2, h3, h4⟩ := putS_ok he
      have hfb := full_bytes (by omega) hok h1
      rw [h4, read_eq _ _ hfb (by omega), read_full (okRM_of hok h1 h2) h3]
      simp only [cond_ne, if_true]
      rw [same_self l _ (by omega)]
      simp only [cond_true]
      have := back_read x Yes hx hxl (Yes false)
      simp only [cond_ne, cond_eq] at this
      exact this
    · rw [if_neg he]
      have := back_read x Yes hx hxl (Yes false)
      simp only [cond_ne, cond_eq] at this ⊢
      exact this

theorem cert_cut (l : List Cl) (k : Int) (h : okI ClsTy l) (_ : IntKind.i64.has k) : p_law21_CertCut l k Yes = some () := by
  have hok := okM_of h
  unfold p_law21_CertCut
  rw [awake21]
  simp only [cond_not, cond_true]
  rw [short_eq]
  cases hs : shortB l with
  | false => rfl
  | true =>
    have hsum := short_sum hs
    have hlen := putNs_len (numsM l)
    simp only [cond_true]
    rw [put_eq l _ hok hsum]
    simp only [cond_ne, cond_dec, cond_inR]
    by_cases he : (putS l).2 = 0
    · rw [if_pos he]
      obtain ⟨h1, h2, h3, h4⟩ := putS_ok he
      have hfb := full_bytes (by omega) hok h1
      rw [h4]
      by_cases hk0 : k < 0
      · rw [if_pos hk0]
      · rw [if_neg hk0]
        by_cases hk1 : k ≥ (fullM l).length
        · rw [if_pos hk1]
        · rw [if_neg hk1, if_pos (by omega), rng_to0, read_eq _ _ (bytes_take hfb _) (by rw [List.length_take]; omega), read_cut (okRM_of hok h1 h2) h3 (by omega)]
          rfl
    · rw [if_neg he]

end Go.Trm.G1
