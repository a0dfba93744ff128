import Derived.Test.YthidebepdpkgkabTrmQRead
import Derived.Test.YthidebepdpkgkabTrmArgs
set_option linter.unusedVariables false
set_option linter.unusedSimpArgs false
namespace Go.Trm.G1

abbrev ClsTy : Ty := .sl 89 (.pair (.sl 86 (.sl 85 (.pair (.pair (.int .u64) (.pair (.int .u64) .unit)) (.pair (.pair (.int .i64) (.pair (.int .u64) .unit)) .unit)))) .unit)

theorem okM_of {l : List Cl} (h : okI ClsTy l) : okM l := fun c hc r hr a ha => by
  have h1 := ((h.2 c hc).1.2 r hr).2 a ha
  obtain ⟨⟨h2, h3, _⟩, ⟨h4, h5, _⟩, _⟩ := h1
  exact ⟨h2, h3, h4, h5⟩

theorem putN_in : ∀ (f : Nat) (n : Int), 0 ≤ n → n < 128 ^ (f + 1) → ∀ x ∈ putN f n, 0 ≤ x ∧ x ≤ 255 := by
  intro f
  induction f with
  | zero =>
    intro n h0 h1 x hx
    have h1' : n < 128 := h1
    simp [putN] at hx
    omega
  | succ f ih =>
    intro n h0 h1 x hx
    unfold putN at hx
    by_cases hn : n < 128
    · rw [if_pos hn] at hx; simp at hx; omega
    · rw [if_neg hn] at hx
      have hd : n / 128 < 128 ^ (f + 1) := Int.ediv_lt_of_lt_mul (by omega) (by rw [← p128]; exact h1)
      rcases List.mem_cons.1 hx with rfl | hx
      · omega
      · exact ih _ (by omega) hd x hx
theorem putNs_in : ∀ (l : List Int), (∀ v ∈ l, 0 ≤ v ∧ v ≤ 18446744073709551615) → ∀ x ∈ putNs l, 0 ≤ x ∧ x ≤ 255
  | [], _ => by simp [putNs]
  | n :: l, h => by
    intro x hx
    simp only [putNs, List.mem_append] at hx
    rcases hx with hx | hx
    · refine putN_in 9 n (h n (by simp)).1 ?_ x hx
      have : (128 : Int) ^ (9 + 1) = 1180591620717411303424 := by decide
      have := (h n (by simp)).2
      omega
    · exact putNs_in l (fun v hv => h v (by simp [hv])) x hx
theorem full_bytes {l : List Cl} (hl : (numsM l).length ≤ 1000000000) (hok : okM l) (hr : rightM l = true) : bytes (fullM l) := u8_bytes fun n hn => putNs_in _ (numsM_in l hl hok hr) n hn

def oneA : Ab := ((0, (255, ())), ((0, (0, ())), ()))
def oneL : List Cl := [([[oneA]], ())]
theorem okM_one : okM oneL := fun c hc r hr a ha => by
  simp only [oneL, List.mem_singleton] at hc
  subst hc
  simp only [List.mem_singleton] at hr
  subst hr
  simp only [List.mem_singleton] at ha
  subst ha
  exact ⟨by decide, by decide, by decide, by decide⟩
theorem one_right : rightM oneL = true := by decide +kernel
theorem one_long : longM oneL = false := by decide +kernel
theorem one_full : fullM oneL = [1, 1, 1, 0, 255, 1, 0, 0] := by decide +kernel

theorem awake21 {R : Type} (K : Bool → Option R) : p_law21_awake K = K true := by
  have hp : putS oneL = ([1, 1, 1, 0, 255, 1, 0, 0], 0) := by
    unfold putS
    rw [one_right, one_long, one_full]
    simp
  have hr : readS [1, 1, 1, 0, 255, 1, 0, 0] = (oneL, 0) := by
    rw [← one_full]
    exact read_full (okRM_of okM_one one_right one_long) (by rw [one_full]; decide)
  have hb : bytes [1, 1, 1, 0, 255, 1, 0, 0] := by
    rw [← one_full]
    exact full_bytes (by decide) okM_one one_right
  unfold p_law21_awake
  show p_cert_Put oneL _ = _
  rw [put_eq oneL _ okM_one (by decide), hp]
  show p_cert_Read [1, 1, 1, 0, 255, 1, 0, 0] _ = _
  rw [read_eq _ _ hb (by decide), hr]
  simp only [cond_eq, if_true]
  show p_ref01_Same [1, 1, 1, 0, 255, 1, 0, 0] [1, 1, 1, 0, 255, 1, 0, 0] _ = _
  rw [p21_eq _ _ _ (by decide), if_pos rfl]
  rfl

theorem putS_ok {l : List Cl} (h : (putS l).2 = 0) : rightM l = true ∧ longM l = false ∧ (fullM l).length ≤ 65536 ∧ (putS l).1 = fullM l := by
  unfold putS at h ⊢
  by_cases h1 : rightM l = true
  · rw [if_pos h1] at h ⊢
    by_cases h2 : longM l = true ∨ 65536 < (fullM l).length
    · rw [if_pos h2] at h; cases h
    · rw [if_neg h2]
      refine ⟨h1, ?_, by omega, rfl⟩
      cases hh : longM l with
      | true => exact absurd (Or.inl hh) h2
      | false => rfl
  · rw [if_neg h1] at h; cases h

theorem rng_to0 (l : List Int) (k : Int) : rng l 0 k = l.take k.toNat := by
  unfold rng
  simp

end Go.Trm.G1
