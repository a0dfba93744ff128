import Derived.Test.YthidebepdpkgkabTrmQNum
set_option linter.unusedVariables false
set_option linter.unusedSimpArgs false
namespace Go.Trm.G1

/-! Readers and what they read back. -/

abbrev Rd (α : Type) := List Int → Except Int (α × List Int)

structure Codec {α : Type} (put : α → List Int) (p : Rd α) (ok : α → Prop) : Prop where
  rt : ∀ x rest, ok x → p (put x ++ rest) = .ok (x, rest)
  back : ∀ b x rest, bytes b → p b = .ok (x, rest) → b = put x ++ rest ∧ ok x
  cut : ∀ x k, ok x → k < (put x).length → p ((put x).take k) = .error 1
  bad : ∀ b e, p b = .error e → e ≠ 0

theorem bytes_app_right {a b : List Int} (h : bytes (a ++ b)) : bytes b := by
  have := bytes_drop h a.length
  rwa [List.drop_left] at this

/-! ## numbers -/
theorem raw_put : ∀ (f m : Nat) (n : Int) (rest : List Int), 0 ≤ n → n < 128 ^ (f + 1) → f + 1 ≤ m → ∃ last, raw m (putN f n ++ rest) = .ok n last (putN f n).length ∧ last * 128 ^ ((putN f n).length - 1) ≤ n := by
  intro f
  induction f with
  | zero =>
    intro m n rest h0 h1 hm
    obtain ⟨m, rfl⟩ : ∃ k, m = k + 1 := ⟨m - 1, by omega⟩
    have h1' : n < 128 := h1
    refine ⟨n, ?_, ?_⟩
    · simp [putN, raw, h1']
    · simp [putN]
  | succ f ih =>
    intro m n rest h0 h1 hm
    obtain ⟨m, rfl⟩ : ∃ k, m = k + 1 := ⟨m - 1, by omega⟩
    unfold putN
    by_cases hn : n < 128
    · rw [if_pos hn]
      exact ⟨n, by simp [raw, hn], by simp⟩
    · rw [if_neg hn]
      have hd : n / 128 < 128 ^ (f + 1) := Int.ediv_lt_of_lt_mul (by omega) (by rw [← p128]; exact h1)
      obtain ⟨last, e, hle⟩ := ih m (n / 128) rest (by omega) hd (by omega)
      have hp := putN_len f (n / 128)
      refine ⟨last, ?_, ?_⟩
      · have : ¬ (n % 128 + 128 < 128) := by omega
        simp only [List.cons_append, raw, this, if_false, e, List.length_cons]
        congr 1
        omega
      · obtain ⟨k, hk⟩ : ∃ k, (putN f (n / 128)).length = k + 1 := ⟨(putN f (n / 128)).length - 1, by omega⟩
        rw [List.length_cons, hk]
        rw [hk] at hle
        simp only [Nat.add_sub_cancel] at hle ⊢
        rw [p128, ← Int.mul_assoc]
        omega

theorem raw_cut : ∀ (f m : Nat) (n : Int) (k : Nat), f + 1 ≤ m → 0 ≤ n → k < (putN f n).length → raw m ((putN f n).take k) = .short := by
  intro f
  induction f with
  | zero =>
    intro m n k hm _ hk
    obtain ⟨m, rfl⟩ : ∃ k, m = k + 1 := ⟨m - 1, by omega⟩
    simp [putN] at hk
    subst hk
    rfl
  | succ f ih =>
    intro m n k hm hn hk
    obtain ⟨m, rfl⟩ : ∃ k, m = k + 1 := ⟨m - 1, by omega⟩
    cases k with
    | zero => rfl
    | succ k =>
      unfold putN at hk ⊢
      by_cases h : n < 128
      · rw [if_pos h] at hk; simp at hk
      · rw [if_neg h] at hk ⊢
        rw [List.length_cons] at hk
        have := ih m (n / 128) k (by omega) (by omega) (by omega)
        have h2 : ¬ (n % 128 + 128 < 128) := by omega
        simp only [List.take_succ_cons, raw, h2, if_false, this]

theorem raw_back : ∀ (f m : Nat) (l : List Int) (v last : Int) (k : Nat), m ≤ f + 1 → bytes l → raw m l = .ok v last k → (putN f v).length = k → l.take k = putN f v := by
  intro f
  induction f with
  | zero =>
    intro m l v last k hm hb h hk
    cases m with
    | zero => cases h
    | succ m =>
      cases l with
      | nil => cases h
      | cons x r =>
        have : m = 0 := by omega
        subst this
        simp only [raw] at h
        split at h
        · cases h; simp [putN]
        · cases h
  | succ f ih =>
    intro m l v last k hm hb h hk
    cases m with
    | zero => cases h
    | succ m =>
      cases l with
      | nil => cases h
      | cons x r =>
        have hx := bytes_head hb
        simp only [raw] at h
        split at h
        · rename_i hx1
          cases h
          simp [putN, hx1]
        · rename_i hx1
          split at h
          · rename_i v' last' k' he
            cases h
            obtain ⟨g1, g2, g3, g4, g5, g6⟩ := raw_ok (bytes_tail hb) he
            unfold putN at hk ⊢
            by_cases hv : x % 128 + 128 * v' < 128
            · rw [if_pos hv] at hk
              simp at hk
              omega
            · rw [if_neg hv] at hk ⊢
              have e1 : (x % 128 + 128 * v') / 128 = v' := by omega
              have e2 : (x % 128 + 128 * v') % 128 + 128 = x := by omega
              rw [e1, e2]
              rw [e1, e2, List.length_cons] at hk
              rw [List.take_succ_cons, ih m r v' _ k' (by omega) (bytes_tail hb) he (by omega)]
          · rename_i he
            exact absurd h (he _ _ _)

theorem u64_in {l : List Int} (hb : bytes l) (h : (u64S l).2.2 = 0) : (0 ≤ (u64S l).1 ∧ (u64S l).1 ≤ 18446744073709551615) ∧ 1 ≤ (u64S l).2.1 ∧ (u64S l).2.1 ≤ 10 ∧ (u64S l).2.1 ≤ l.length := by
  unfold u64S at h ⊢
  cases hr : raw 10 l with
  | short => rw [hr] at h; cases h
  | form => rw [hr] at h; cases h
  | ok v last k =>
    rw [hr] at h
    obtain ⟨h1, h2, h3, h4, h5, h6⟩ := raw_ok hb hr
    obtain ⟨h7, h8⟩ := raw_le hb hr
    simp only at h ⊢
    split at h
    · cases h
    · rename_i hq
      rw [if_neg hq]
      simp only
      by_cases hk : k = 10
      · subst hk
        have : (128 : Int) ^ (10 - 1) = 9223372036854775808 := by decide
        rw [this] at h7
        omega
      · have : (128 : Int) ^ (k - 1) ≤ 72057594037927936 := by
          rcases (by omega : k = 1 ∨ k = 2 ∨ k = 3 ∨ k = 4 ∨ k = 5 ∨ k = 6 ∨ k = 7 ∨ k = 8 ∨ k = 9) with rfl | rfl | rfl | rfl | rfl | rfl | rfl | rfl | rfl <;> decide
        have hp : (last + 1) * 128 ^ (k - 1) ≤ (last + 1) * 72057594037927936 := Int.mul_le_mul_of_nonneg_left this (by omega)
        omega

/-- a number that is next, in its one form -/
def uP : Rd Int := fun b => if (u64S b).2.2 ≠ 0 then .error (u64S b).2.2 else if ((putN 9 (u64S b).1).length : Int) ≠ (u64S b).2.1 then .error 2 else .ok ((u64S b).1, b.drop (u64S b).2.1.toNat)

def okU (n : Int) : Prop := 0 ≤ n ∧ n ≤ 18446744073709551615

theorem uC : Codec (putN 9) uP okU := by
  constructor
  · intro n rest h
    have hlt : n < 128 ^ (9 + 1) := by
      have : (128 : Int) ^ (9 + 1) = 1180591620717411303424 := by decide
      have := h.2
      omega
    obtain ⟨last, e, hle⟩ := raw_put 9 10 n rest h.1 hlt (by omega)
    have hu : u64S (putN 9 n ++ rest) = (n, ((putN 9 n).length : Int), 0) := by
      unfold u64S
      rw [e]
      simp only
      rw [if_neg]
      rintro ⟨hk, h2⟩
      rw [hk] at hle
      have h3 : (128 : Int) ^ (10 - 1) = 9223372036854775808 := by decide
      rw [h3] at hle
      have := h.2
      omega
    unfold uP
    simp [hu]
  · intro b n rest hb h
    unfold uP at h
    split at h
    · cases h
    · rename_i he
      split at h
      · cases h
      · rename_i hs
        have he : (u64S b).2.2 = 0 := by omega
        have hs : ((putN 9 (u64S b).1).length : Int) = (u64S b).2.1 := by omega
        obtain ⟨h1, h2, h3, h4⟩ := u64_in hb he
        cases h
        refine ⟨?_, h1⟩
        have hk : (putN 9 (u64S b).1).length = (u64S b).2.1.toNat := by omega
        have : b.take (u64S b).2.1.toNat = putN 9 (u64S b).1 := by
          unfold u64S at he hk ⊢
          cases hr : raw 10 b with
          | short => rw [hr] at he; cases he
          | form => rw [hr] at he; cases he
          | ok v last k =>
            rw [hr] at he hk
            simp only at he hk ⊢
            split at he
            · cases he
            · rename_i hq
              rw [if_neg hq] at hk ⊢
              simp only [Int.toNat_natCast] at hk ⊢
              exact raw_back 9 10 b v last k (by omega) hb hr hk
        rw [← this, List.take_append_drop]
  · intro n k h hk
    have := raw_cut 9 10 n k (by omega) h.1 hk
    unfold uP u64S
    rw [this]
    simp
  · intro b e h
    unfold uP at h
    split at h
    · cases h; assumption
    · split at h
      · cases h; decide
      · cases h

/-! ## one behind the other -/
section
variable {α β : Type}
def pS (p : Rd α) (q : Rd β) : Rd (α × β) := fun b => match p b with
  | .error e => .error e
  | .ok (x, b1) => match q b1 with
    | .error e => .error e
    | .ok (y, b2) => .ok ((x, y), b2)

theorem take_app_lt {a b : List Int} {k : Nat} (h : k < a.length) : (a ++ b).take k = a.take k := by
  rw [List.take_append, show k - a.length = 0 by omega]
  simp
theorem take_app_ge {a b : List Int} {k : Nat} (h : a.length ≤ k) : (a ++ b).take k = a ++ b.take (k - a.length) := by
  rw [List.take_append, List.take_of_length_le h]

theorem seqC {f : α → List Int} {g : β → List Int} {p : Rd α} {q : Rd β} {okx : α → Prop} {oky : β → Prop} (hp : Codec f p okx) (hq : Codec g q oky) : Codec (fun z : α × β => f z.1 ++ g z.2) (pS p q) (fun z => okx z.1 ∧ oky z.2) := by
  constructor
  · rintro ⟨x, y⟩ rest ⟨hx, hy⟩
    unfold pS
    rw [List.append_assoc, hp.rt _ _ hx]
    simp only
    rw [hq.rt _ _ hy]
  · rintro b ⟨x, y⟩ rest hb h
    unfold pS at h
    cases h1 : p b with
    | error e => rw [h1] at h; cases h
    | ok z =>
      obtain ⟨x', b1⟩ := z
      rw [h1] at h
      simp only at h
      obtain ⟨e1, k1⟩ := hp.back _ _ _ hb h1
      cases h2 : q b1 with
      | error e => rw [h2] at h; cases h
      | ok z =>
        obtain ⟨y', b2⟩ := z
        rw [h2] at h
        cases h
        obtain ⟨e2, k2⟩ := hq.back _ _ _ (by rw [e1] at hb; exact bytes_app_right hb) h2
        exact ⟨by rw [List.append_assoc, ← e2, ← e1], k1, k2⟩
  · rintro ⟨x, y⟩ k ⟨hx, hy⟩ hk
    have hk : k < (f x ++ g y).length := hk
    show pS p q ((f x ++ g y).take k) = _
    unfold pS
    by_cases h : k < (f x).length
    · rw [take_app_lt h, hp.cut _ _ hx h]
    · rw [take_app_ge (by omega), hp.rt _ _ hx]
      simp only
      rw [List.length_append] at hk
      have hlt : k - (f x).length < (g y).length := by omega
      rw [hq.cut y _ hy hlt]
  · intro b e h
    unfold pS at h
    cases h1 : p b with
    | error e' => rw [h1] at h; cases h; exact hp.bad _ _ h1
    | ok z =>
      rw [h1] at h
      simp only at h
      cases h2 : q z.2 with
      | error e' => rw [h2] at h; cases h; exact hq.bad _ _ h2
      | ok z => rw [h2] at h; cases h

/-- what is read is looked at -/
def pM (g : α → Except Int β) (p : Rd α) : Rd β := fun b => match p b with
  | .error e => .error e
  | .ok (x, b1) => match g x with
    | .error e => .error e
    | .ok y => .ok (y, b1)

theorem mapC {f : α → List Int} {p : Rd α} {ok : α → Prop} (hp : Codec f p ok) (g : α → Except Int β) (h : β → α) (ok' : β → Prop) (h1 : ∀ y, ok' y → ok (h y) ∧ g (h y) = .ok y) (h2 : ∀ x y, ok x → g x = .ok y → x = h y ∧ ok' y) (h3 : ∀ x e, g x = .error e → e ≠ 0) : Codec (fun y => f (h y)) (pM g p) ok' := by
  constructor
  · intro y rest hy
    unfold pM
    rw [hp.rt _ _ (h1 y hy).1]
    simp only
    rw [(h1 y hy).2]
  · intro b y rest hb e
    unfold pM at e
    cases e1 : p b with
    | error e' => rw [e1] at e; cases e
    | ok z =>
      obtain ⟨x, b1⟩ := z
      rw [e1] at e
      simp only at e
      obtain ⟨q1, q2⟩ := hp.back _ _ _ hb e1
      cases e2 : g x with
      | error e' => rw [e2] at e; cases e
      | ok y' =>
        rw [e2] at e
        cases e
        obtain ⟨q3, q4⟩ := h2 _ _ q2 e2
        exact ⟨by rw [← q3]; exact q1, q4⟩
  · intro y k hy hk
    unfold pM
    rw [hp.cut _ _ (h1 y hy).1 hk]
  · intro b e hh
    unfold pM at hh
    cases e1 : p b with
    | error e' => rw [e1] at hh; cases hh; exact hp.bad _ _ e1
    | ok z =>
      rw [e1] at hh
      simp only at hh
      cases e2 : g z.1 with
      | error e' => rw [e2] at hh; cases hh; exact h3 _ _ e2
      | ok y' => rw [e2] at hh; cases hh

def pL (p : Rd α) : Nat → Rd (List α)
  | 0 => fun b => .ok ([], b)
  | k + 1 => fun b => match p b with
    | .error e => .error e
    | .ok (x, b1) => match pL p k b1 with
      | .error e => .error e
      | .ok (l, b2) => .ok (x :: l, b2)
def putL (f : α → List Int) : List α → List Int
  | [] => []
  | x :: l => f x ++ putL f l

theorem repC {f : α → List Int} {p : Rd α} {ok : α → Prop} (hp : Codec f p ok) : ∀ k, Codec (putL f) (pL p k) (fun l => l.length = k ∧ ∀ x ∈ l, ok x) := by
  intro k
  induction k with
  | zero =>
    constructor
    · rintro l rest ⟨h, _⟩
      have : l = [] := List.eq_nil_of_length_eq_zero h
      subst this
      rfl
    · intro b x rest _ h
      cases h
      exact ⟨rfl, rfl, by simp⟩
    · rintro l k ⟨h, _⟩ hk
      have : l = [] := List.eq_nil_of_length_eq_zero h
      subst this
      simp [putL] at hk
    · intro b e h; cases h
  | succ k ih =>
    constructor
    · rintro l rest ⟨h, hx⟩
      cases l with
      | nil => simp at h
      | cons x l =>
        simp only [pL, putL, List.append_assoc]
        rw [hp.rt _ _ (hx x (by simp))]
        simp only
        rw [ih.rt l rest ⟨by simpa using h, fun y hy => hx y (by simp [hy])⟩]
    · intro b l rest hb h
      simp only [pL] at h
      cases e1 : p b with
      | error e => rw [e1] at h; cases h
      | ok z =>
        obtain ⟨x, b1⟩ := z
        rw [e1] at h
        simp only at h
        obtain ⟨q1, q2⟩ := hp.back _ _ _ hb e1
        cases e2 : pL p k b1 with
        | error e => rw [e2] at h; cases h
        | ok z =>
          obtain ⟨l', b2⟩ := z
          rw [e2] at h
          cases h
          obtain ⟨q3, q4, q5⟩ := ih.back _ _ _ (by rw [q1] at hb; exact bytes_app_right hb) e2
          refine ⟨by simp only [putL]; rw [List.append_assoc, ← q3, ← q1], by simp [q4], ?_⟩
          intro y hy
          rcases List.mem_cons.1 hy with rfl | hy
          · exact q2
          · exact q5 y hy
    · rintro l j ⟨h, hx⟩ hj
      cases l with
      | nil => simp at h
      | cons x l =>
        simp only [pL, putL] at hj ⊢
        by_cases hl : j < (f x).length
        · rw [take_app_lt hl, hp.cut _ _ (hx x (by simp)) hl]
        · rw [take_app_ge (by omega), hp.rt _ _ (hx x (by simp))]
          simp only
          rw [List.length_append] at hj
          rw [ih.cut l (j - (f x).length) ⟨by simpa using h, fun y hy => hx y (by simp [hy])⟩ (by omega)]
    · intro b e h
      simp only [pL] at h
      cases e1 : p b with
      | error e' => rw [e1] at h; cases h; exact hp.bad _ _ e1
      | ok z =>
        rw [e1] at h
        simp only at h
        cases e2 : pL p k z.2 with
        | error e' => rw [e2] at h; cases h; exact ih.bad _ _ e2
        | ok z => rw [e2] at h; cases h

/-- how many, then these -/
def pN (most : Int) (p : Rd α) : Rd (List α) := fun b => match uP b with
  | .error e => .error e
  | .ok (n, b1) => if n > most then .error 4 else pL p n.toNat b1

theorem cntC {f : α → List Int} {p : Rd α} {ok : α → Prop} (hp : Codec f p ok) (most : Int) (hm : most ≤ 18446744073709551615) : Codec (fun l => putN 9 (l.length : Int) ++ putL f l) (pN most p) (fun l => (l.length : Int) ≤ most ∧ ∀ x ∈ l, ok x) := by
  constructor
  · rintro l rest ⟨h, hx⟩
    unfold pN
    rw [List.append_assoc, uC.rt _ _ (show okU (l.length : Int) from ⟨by omega, by omega⟩)]
    simp only
    rw [if_neg (by omega), Int.toNat_natCast]
    exact (repC hp l.length).rt l rest ⟨rfl, hx⟩
  · intro b l rest hb h
    unfold pN at h
    cases e1 : uP b with
    | error e => rw [e1] at h; cases h
    | ok z =>
      obtain ⟨n, b1⟩ := z
      rw [e1] at h
      simp only at h
      obtain ⟨q1, q2, q3⟩ := uC.back _ _ _ hb e1
      split at h
      · cases h
      · obtain ⟨q4, q5, q6⟩ := (repC hp n.toNat).back _ _ _ (by rw [q1] at hb; exact bytes_app_right hb) h
        have : (l.length : Int) = n := by omega
        rw [this]
        exact ⟨by rw [List.append_assoc, ← q4, ← q1], by omega, q6⟩
  · rintro l k ⟨h, hx⟩ hk
    unfold pN
    have hu : okU (l.length : Int) := ⟨by omega, by omega⟩
    by_cases hl : k < (putN 9 (l.length : Int)).length
    · rw [take_app_lt hl, uC.cut _ _ hu hl]
    · rw [take_app_ge (by omega), uC.rt _ _ hu]
      simp only
      rw [if_neg (by omega), Int.toNat_natCast]
      rw [List.length_append] at hk
      exact (repC hp l.length).cut l _ ⟨rfl, hx⟩ (by omega)
  · intro b e h
    unfold pN at h
    cases e1 : uP b with
    | error e' => rw [e1] at h; cases h; exact uC.bad _ _ e1
    | ok z =>
      rw [e1] at h
      simp only at h
      split at h
      · cases h; decide
      · exact (repC hp _).bad _ _ h
end
end Go.Trm.G1
