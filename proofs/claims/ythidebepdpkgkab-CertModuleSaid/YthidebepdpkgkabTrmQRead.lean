import Derived.Test.YthidebepdpkgkabTrmQCodec
import Derived.Test.YthidebepdpkgkabTrmQRef21
set_option linter.unusedVariables false
set_option linter.unusedSimpArgs false
namespace Go.Trm.G1

/-! cert.Read -/

def absOf (z : Int × Int × Int × Int) : Ab := ((z.1, (z.2.1, ())), ((minI z.2.2.1 65, (z.2.2.2, ())), ()))
def absG (z : Int × Int × Int × Int) : Except Int Ab := if rightB (absOf z) = true then .ok (absOf z) else .error 2
def aP : Rd Ab := pM absG (pS uP (pS uP (pS uP uP)))
def okRA (a : Ab) : Prop := okA a ∧ rightB a = true
def unA (a : Ab) : Int × Int × Int × Int := (a.1.1, a.1.2.1, a.2.1.1, a.2.1.2.1)
def putA (a : Ab) : List Int := putN 9 a.1.1 ++ (putN 9 a.1.2.1 ++ (putN 9 a.2.1.1 ++ putN 9 a.2.1.2.1))

theorem minI_le {a b : Int} (h : a ≤ b) : minI a b = a := by unfold minI; split <;> omega
theorem minI_ge {a b : Int} (h : b ≤ a) : minI a b = b := by unfold minI; split <;> omega

theorem right_n {a : Ab} (h : rightB a = true) : 0 ≤ a.2.1.1 ∧ a.2.1.1 ≤ 64 := by unfold rightB at h; simp at h; omega

theorem aC : Codec putA aP okRA := by
  refine mapC (seqC uC (seqC uC (seqC uC uC))) absG unA okRA ?_ ?_ ?_
  · rintro ⟨⟨lo, hi, ⟨⟩⟩, ⟨n, r, ⟨⟩⟩, ⟨⟩⟩ ⟨⟨h1, h2, h3, h4⟩, hr⟩
    have hn := right_n hr
    simp only at h1 h2 h3 h4 hn
    refine ⟨⟨h1, h2, ⟨hn.1, by show n ≤ _; omega⟩, h4⟩, ?_⟩
    have : absOf (unA ((lo, hi, ()), (n, r, ()), ())) = ((lo, hi, ()), (n, r, ()), ()) := by
      simp only [absOf, unA]
      rw [minI_le (by omega)]
    unfold absG
    rw [this, if_pos hr]
  · rintro ⟨lo, hi, n, r⟩ a ⟨h1, h2, h3, h4⟩ h
    unfold absG at h
    split at h
    · rename_i hr
      cases h
      have hn := right_n hr
      simp only [absOf] at hn
      have hn' : n ≤ 65 := by
        by_cases h : n ≤ 65
        · exact h
        · rw [minI_ge (by omega)] at hn; omega
      rw [minI_le (by omega)] at hn
      refine ⟨?_, ⟨h1, h2, ?_, h4⟩, hr⟩
      · simp only [unA, absOf]
        rw [minI_le (by omega)]
      · simp only [absOf]
        rw [minI_le (by omega)]
        omega
    · cases h
  · intro x e h
    unfold absG at h
    split at h
    · cases h
    · cases h; decide

def rP : Rd Rw := pN 64 aP
def putR (r : Rw) : List Int := putN 9 (r.length : Int) ++ putL putA r
def okRR (r : Rw) : Prop := (r.length : Int) ≤ 64 ∧ ∀ a ∈ r, okRA a
theorem rC : Codec putR rP okRR := cntC aC 64 (by decide)

def toC (l : List Rw) : Except Int Cl := .ok (l, ())
def cP : Rd Cl := pM toC (pN 2000 rP)
def putC (c : Cl) : List Int := putN 9 (c.1.length : Int) ++ putL putR c.1
def okRC (c : Cl) : Prop := (c.1.length : Int) ≤ 2000 ∧ ∀ r ∈ c.1, okRR r
theorem cC : Codec putC cP okRC := by
  refine mapC (cntC rC 2000 (by decide)) toC (fun c => c.1) okRC ?_ ?_ ?_
  · rintro ⟨l, ⟨⟩⟩ h
    exact ⟨h, rfl⟩
  · rintro l ⟨l', ⟨⟩⟩ h e
    cases e
    exact ⟨rfl, h⟩
  · intro x e h; cases h

def mP : Rd (List Cl) := pN 64 cP
def okRM (l : List Cl) : Prop := (l.length : Int) ≤ 64 ∧ ∀ c ∈ l, okRC c
theorem mC : Codec (fun l => putN 9 (l.length : Int) ++ putL putC l) mP okRM := cntC cC 64 (by decide)

theorem putAs_eq : ∀ r : Rw, putL putA r = putNs (numsAs r)
  | [] => rfl
  | a :: l => by simp [putL, putA, numsAs, numsA, putNs, putAs_eq l]
theorem putRs_eq : ∀ l : List Rw, putL putR l = putNs (numsRs l)
  | [] => rfl
  | r :: l => by simp [putL, putR, numsRs, numsR, putNs, putNs_app, putRs_eq l, putAs_eq]
theorem putCs_eq : ∀ l : List Cl, putL putC l = putNs (numsCs l)
  | [] => rfl
  | c :: l => by simp [putL, putC, numsCs, numsC, putNs, putNs_app, putCs_eq l, putRs_eq]
theorem putM_eq (l : List Cl) : putN 9 (l.length : Int) ++ putL putC l = fullM l := by rw [putCs_eq]; rfl

theorem okRM_of {l : List Cl} (hok : okM l) (hr : rightM l = true) (hl : longM l = false) : okRM l := by
  unfold longM at hl
  rw [Bool.or_eq_false_iff] at hl
  obtain ⟨h1, h2⟩ := hl
  have h1 : ¬ l.length > 64 := by simpa using h1
  refine ⟨by omega, fun c hc => ?_⟩
  have hrc : rightC c = true := List.all_eq_true.1 hr c hc
  have hlc : longC c = false := by
    have := List.any_eq_false.1 h2 c hc
    simpa using this
  unfold longC at hlc
  rw [Bool.or_eq_false_iff] at hlc
  obtain ⟨h3, h4⟩ := hlc
  have h3 : ¬ c.1.length > 2000 := by simpa using h3
  refine ⟨by omega, fun r hrr => ?_⟩
  have hr2 : rightR r = true := List.all_eq_true.1 hrc r hrr
  have hl2 : longR r = false := by
    have := List.any_eq_false.1 h4 r hrr
    simpa using this
  have hl2 : ¬ r.length > 64 := by simpa [longR] using hl2
  refine ⟨by omega, fun a ha => ⟨hok c hc r hrr a ha, List.all_eq_true.1 hr2 a ha⟩⟩

theorem of_okRM {l : List Cl} (h : okRM l) : okM l ∧ rightM l = true ∧ longM l = false := by
  obtain ⟨h1, h2⟩ := h
  refine ⟨fun c hc r hr a ha => ((h2 c hc).2 r hr).2 a ha |>.1, ?_, ?_⟩
  · exact List.all_eq_true.2 fun c hc => List.all_eq_true.2 fun r hr => List.all_eq_true.2 fun a ha => (((h2 c hc).2 r hr).2 a ha).2
  · unfold longM
    rw [Bool.or_eq_false_iff]
    refine ⟨by simp; omega, List.any_eq_false.2 fun c hc => ?_⟩
    have := h2 c hc
    have h5 : longC c = false := by
      unfold longC
      rw [Bool.or_eq_false_iff]
      refine ⟨by simp; have := this.1; omega, List.any_eq_false.2 fun r hr => ?_⟩
      have := (this.2 r hr).1
      unfold longR
      simp; omega
    simp [h5]

/-- what Read says -/
def readS (b : List Int) : List Cl × Int := if b.length > 65536 then ([], 4) else match mP b with
  | .error e => ([], e)
  | .ok (l, r) => if r = [] then (l, 0) else ([], 2)

theorem read_full {l : List Cl} (h : okRM l) (hl : (fullM l).length ≤ 65536) : readS (fullM l) = (l, 0) := by
  unfold readS
  rw [if_neg (by omega)]
  have := mC.rt l [] h
  rw [List.append_nil, putM_eq] at this
  rw [this]
  simp
theorem read_back {b : List Int} (hb : bytes b) (h : (readS b).2 = 0) : okRM (readS b).1 ∧ fullM (readS b).1 = b := by
  unfold readS at h ⊢
  split at h
  · cases h
  · rename_i h1
    rw [if_neg h1]
    cases e : mP b with
    | error e' => rw [e] at h; exact absurd h (mC.bad _ _ e)
    | ok z =>
      obtain ⟨l, r⟩ := z
      rw [e] at h
      simp only at h ⊢
      split at h
      · rename_i hr
        subst hr
        rw [if_pos rfl]
        obtain ⟨q1, q2⟩ := mC.back _ _ _ hb e
        rw [List.append_nil, putM_eq] at q1
        exact ⟨q2, q1.symm⟩
      · cases h
theorem read_bad {b : List Int} (h : (readS b).2 ≠ 0) : (readS b).1 = [] := by
  unfold readS at h ⊢
  split
  · rfl
  · split
    · rfl
    · rename_i h1 _ l r e
      rw [if_neg h1, e] at h
      simp only at h
      split at h
      · exact absurd rfl h
      · rename_i hr; rw [if_neg hr]
theorem read_cut {l : List Cl} (h : okRM l) (hl : (fullM l).length ≤ 65536) {k : Nat} (hk : k < (fullM l).length) : readS ((fullM l).take k) = ([], 1) := by
  unfold readS
  rw [if_neg (by rw [List.length_take]; omega)]
  have := mC.cut l k h
  rw [putM_eq] at this
  rw [this hk]

/-! ## the code -/
abbrev St2 := (List Int) × (Int) × Unit

section
theorem u_err {R : Type} (b : List Int) (e : Int) (K : Int → St2 → Option R) (h : e ≠ 0) : p_cert_reader_u (b, (e, ())) K = K 0 (b, (e, ())) := by
  unfold p_cert_reader_u
  simp only [cond_ne]
  rw [if_neg h]

theorem u_eq {R : Type} (b : List Int) (K : Int → St2 → Option R) (hb : bytes b) (hl : b.length ≤ 1000000000) : p_cert_reader_u (b, ((0 : Int), ())) K = match uP b with
    | .error e => K 0 (b, (e, ()))
    | .ok (n, r) => K n (r, ((0 : Int), ())) := by
  have hmost : most = 4294967296 := rfl
  unfold p_cert_reader_u
  simp only [cond_ne, if_true, cond_eq, cond_inR]
  rw [u64_eq b _ hb (by omega)]
  unfold uP
  by_cases he : (u64S b).2.2 = 0
  · obtain ⟨h1, h2, h3, h4⟩ := u64_in hb he
    rw [if_pos he, p36_eq _ _ _ h1.1 h1.2 (by simp; omega), List.nil_append, if_neg (show ¬ (u64S b).2.2 ≠ 0 from fun h => h he)]
    by_cases hs : ((putN 9 (u64S b).1).length : Int) = (u64S b).2.1
    · have hr : rng b (u64S b).2.1 (b.length : Int) = b.drop (u64S b).2.1.toNat := by
        unfold rng
        rw [Int.toNat_natCast, List.take_length]
      rw [if_pos hs, if_pos he, if_pos (by omega), if_neg (fun h => h hs), hr]
    · rw [if_neg hs, if_neg (by decide), if_pos hs]
  · rw [if_neg he, if_neg he, if_pos he]

theorem u_rest {b r : List Int} {n : Int} (hb : bytes b) (h : uP b = .ok (n, r)) : bytes r ∧ r.length + 1 ≤ b.length ∧ okU n := by
  obtain ⟨q1, q2⟩ := uC.back _ _ _ hb h
  have hp := putN_len 9 n
  refine ⟨by rw [q1] at hb; exact bytes_app_right hb, ?_, q2⟩
  rw [q1, List.length_append]
  omega

theorem count_err {R : Type} (b : List Int) (e m : Int) (K : Int → St2 → Option R) (h : e ≠ 0) : p_cert_reader_count (b, (e, ())) m K = K 0 (b, (e, ())) := by
  unfold p_cert_reader_count
  rw [u_err _ _ _ h]
  simp only [cond_eq, cond_ne]
  rw [if_neg h, if_neg h]

/-- counts -/
def nP (m : Int) : Rd Int := fun b => match uP b with
  | .error e => .error e
  | .ok (n, r) => if n > m then .error 4 else .ok (n, r)

theorem count_eq (b : List Int) (m : Int) (hm : 0 ≤ m ∧ m ≤ 1000000) (hb : bytes b) (hl : b.length ≤ 1000000000) : match nP m b with
    | .error e => e ≠ 0 ∧ ∃ b', ∀ (R : Type) (K : Int → St2 → Option R), p_cert_reader_count (b, ((0 : Int), ())) m K = K 0 (b', (e, ()))
    | .ok (n, r) => (0 ≤ n ∧ n ≤ m) ∧ bytes r ∧ r.length + 1 ≤ b.length ∧ ∀ (R : Type) (K : Int → St2 → Option R), p_cert_reader_count (b, ((0 : Int), ())) m K = K n (r, ((0 : Int), ())) := by
  unfold nP
  cases h : uP b with
  | error e =>
    have he := uC.bad _ _ h
    refine ⟨he, b, fun R K => ?_⟩
    unfold p_cert_reader_count
    rw [u_eq b _ hb hl, h]
    simp only [cond_eq, cond_ne]
    rw [if_neg he, if_neg he]
  | ok z =>
    obtain ⟨n, r⟩ := z
    obtain ⟨h1, h2, h3⟩ := u_rest hb h
    simp only
    have hw : IntKind.u64.wrap m = m := w_u64 (by omega)
    by_cases hn : n > m
    · rw [if_pos hn]
      refine ⟨by decide, r, fun R K => ?_⟩
      unfold p_cert_reader_count
      rw [u_eq b _ hb hl, h]
      simp only [cond_eq, cond_ne, cond_dec, if_true, hw]
      rw [if_pos hn]
      rfl
    · rw [if_neg hn]
      refine ⟨⟨h3.1, by omega⟩, h1, h2, fun R K => ?_⟩
      have hw2 : IntKind.i64.wrap n = n := w_i64 (by have := h3.1; omega)
      unfold p_cert_reader_count
      rw [u_eq b _ hb hl, h]
      simp only [cond_eq, cond_ne, cond_dec, if_true, hw, hw2]
      rw [if_neg hn]

theorem abs_eq (b : List Int) (hb : bytes b) (hl : b.length ≤ 1000000000) : match aP b with
    | .error e => e ≠ 0 ∧ ∃ a b', ∀ (R : Type) (K : Ab → St2 → Option R), p_cert_reader_abs (b, ((0 : Int), ())) K = K a (b', (e, ()))
    | .ok (a, r) => bytes r ∧ r.length + 1 ≤ b.length ∧ ∀ (R : Type) (K : Ab → St2 → Option R), p_cert_reader_abs (b, ((0 : Int), ())) K = K a (r, ((0 : Int), ())) := by
  unfold aP pM pS
  cases e1 : uP b with
  | error e =>
    have he := uC.bad _ _ e1
    refine ⟨he, ((0, (0, ())), ((IntKind.i64.wrap (minI 0 65), (0, ())), ())), b, fun R K => ?_⟩
    unfold p_cert_reader_abs
    rw [u_eq b _ hb hl, e1]
    simp only
    rw [u_err _ _ _ he, u_err _ _ _ he, u_err _ _ _ he]
    simp only [cond_eq]
    rw [if_neg he]
  | ok z =>
  obtain ⟨lo, b1⟩ := z
  obtain ⟨g1, g2, g3⟩ := u_rest hb e1
  simp only
  cases e2 : uP b1 with
  | error e =>
    have he := uC.bad _ _ e2
    refine ⟨he, ((lo, (0, ())), ((IntKind.i64.wrap (minI 0 65), (0, ())), ())), b1, fun R K => ?_⟩
    unfold p_cert_reader_abs
    rw [u_eq b _ hb hl, e1]
    simp only
    rw [u_eq b1 _ g1 (by omega), e2]
    simp only
    rw [u_err _ _ _ he, u_err _ _ _ he]
    simp only [cond_eq]
    rw [if_neg he]
  | ok z =>
  obtain ⟨hi, b2⟩ := z
  obtain ⟨g4, g5, g6⟩ := u_rest g1 e2
  simp only
  cases e3 : uP b2 with
  | error e =>
    have he := uC.bad _ _ e3
    refine ⟨he, ((lo, (hi, ())), ((IntKind.i64.wrap (minI 0 65), (0, ())), ())), b2, fun R K => ?_⟩
    unfold p_cert_reader_abs
    rw [u_eq b _ hb hl, e1]
    simp only
    rw [u_eq b1 _ g1 (by omega), e2]
    simp only
    rw [u_eq b2 _ g4 (by omega), e3]
    simp only
    rw [u_err _ _ _ he]
    simp only [cond_eq]
    rw [if_neg he]
  | ok z =>
  obtain ⟨n, b3⟩ := z
  obtain ⟨g7, g8, g9⟩ := u_rest g4 e3
  simp only
  cases e4 : uP b3 with
  | error e =>
    have he := uC.bad _ _ e4
    refine ⟨he, ((lo, (hi, ())), ((IntKind.i64.wrap (minI n 65), (0, ())), ())), b3, fun R K => ?_⟩
    unfold p_cert_reader_abs
    rw [u_eq b _ hb hl, e1]
    simp only
    rw [u_eq b1 _ g1 (by omega), e2]
    simp only
    rw [u_eq b2 _ g4 (by omega), e3]
    simp only
    rw [u_eq b3 _ g7 (by omega), e4]
    simp only [cond_eq]
    rw [if_neg he]
  | ok z =>
  obtain ⟨r, b4⟩ := z
  obtain ⟨k1, k2, k3⟩ := u_rest g7 e4
  simp only
  have hm : 0 ≤ minI n 65 ∧ minI n 65 ≤ 65 := by have := g9.1; unfold minI; split <;> omega
  have hw : IntKind.i64.wrap (minI n 65) = minI n 65 := w_i64 (by omega)
  have hok : okA ((lo, (hi, ())), ((minI n 65, (r, ())), ())) := ⟨g3, g6, ⟨by simp only; omega, by simp only; omega⟩, k3⟩
  have key : ∀ (R : Type) (K : Ab → St2 → Option R), p_cert_reader_abs (b, ((0 : Int), ())) K = cond (!(rightB (absOf (lo, hi, n, r)))) (K (absOf (lo, hi, n, r)) (b4, ((2 : Int), ()))) (K (absOf (lo, hi, n, r)) (b4, ((0 : Int), ()))) := fun R K => by
    unfold p_cert_reader_abs
    rw [u_eq b _ hb hl, e1]
    simp only
    rw [u_eq b1 _ g1 (by omega), e2]
    simp only
    rw [u_eq b2 _ g4 (by omega), e3]
    simp only
    rw [u_eq b3 _ g7 (by omega), e4]
    simp only [cond_eq, if_true, hw]
    rw [abs_right_eq _ _ hok]
    rfl
  unfold absG
  cases hr : rightB (absOf (lo, hi, n, r)) with
  | true =>
    rw [if_pos rfl]
    simp only
    refine ⟨k1, by omega, fun R K => ?_⟩
    rw [key, hr]
    rfl
  | false =>
    rw [if_neg (by decide)]
    simp only
    refine ⟨by decide, absOf (lo, hi, n, r), b4, fun R K => ?_⟩
    rw [key, hr]
    rfl
end

section
variable {R : Type}

theorem rd14e (kx : St2 → List Cl → Int → Cl → Int → Rw → Option R) (n : Nat) (b : List Int) (e : Int) (he : e ≠ 0) (f5 : List Cl) (f6 : Int) (f7 : Cl) (f8 : Int) (row : Rw) (j : Int) :
    loopN (B_cert_Read_14 kx) (n + 1) ⟨(b, (e, ())), f5, f6, f7, f8, row, j⟩ = kx (b, (e, ())) f5 f6 f7 f8 row := by
  rw [loop_succ]
  unfold B_cert_Read_14
  simp only [cond_dec, cond_eq]
  rw [if_neg he]
  split <;> rfl

theorem rd14 (kx : St2 → List Cl → Int → Cl → Int → Rw → Option R) (f5 : List Cl) (f6 : Int) (f7 : Cl) (f8 : Int) : ∀ (j n : Nat) (b : List Int) (row : Rw), bytes b → b.length ≤ 1000000 → j < n → row.length + j ≤ 100 →
    match pL aP j b with
    | .error e => e ≠ 0 ∧ ∃ b' row', loopN (B_cert_Read_14 kx) n ⟨(b, ((0 : Int), ())), f5, f6, f7, f8, row, j⟩ = kx (b', (e, ())) f5 f6 f7 f8 row'
    | .ok (l, r) => bytes r ∧ r.length ≤ b.length ∧ loopN (B_cert_Read_14 kx) n ⟨(b, ((0 : Int), ())), f5, f6, f7, f8, row, j⟩ = kx (r, ((0 : Int), ())) f5 f6 f7 f8 (row ++ l) := by
  intro j
  induction j with
  | zero =>
    intro n b row hb hl hn hr
    obtain ⟨n, rfl⟩ : ∃ m, n = m + 1 := ⟨n - 1, by omega⟩
    refine ⟨hb, by omega, ?_⟩
    rw [loop_succ]
    unfold B_cert_Read_14
    simp only [cond_dec]
    rw [if_neg (by omega), List.append_nil]
  | succ j ih =>
    intro n b row hb hl hn hr
    have hmost : most = 4294967296 := rfl
    obtain ⟨n, rfl⟩ : ∃ m, n = m + 1 := ⟨n - 1, by omega⟩
    have ha := abs_eq b hb (by omega)
    have hj : IntKind.i64.wrap (((j + 1 : Nat) : Int) - 1) = (j : Int) := by rw [w_i64 (by omega)]; omega
    have hset : ∀ a : Ab, (List.replicate 1 (((0 : Int), ((0 : Int), ())), (((0 : Int), ((0 : Int), ())), ()))).set 0 a = [a] := fun _ => rfl
    have hlen : ∀ a : Ab, row.length + [a].length ≤ most := fun a => by simp only [List.length_cons, List.length_nil]; omega
    simp only [pL]
    cases e1 : aP b with
    | error e =>
      rw [e1] at ha
      obtain ⟨he, a, b', hk⟩ := ha
      refine ⟨he, b', row ++ [a], ?_⟩
      obtain ⟨m, rfl⟩ : ∃ m, n = m + 1 := ⟨n - 1, by omega⟩
      have herr := rd14e kx m b' e he f5 f6 f7 f8 (row ++ [a]) j
      rw [loop_succ]
      generalize loopN (B_cert_Read_14 kx) (m + 1) = rec at herr ⊢
      unfold B_cert_Read_14
      simp only [cond_dec, cond_eq, if_true, hset, hj]
      rw [if_pos (by omega), hk, if_pos (hlen a)]
      exact herr
    | ok z =>
      obtain ⟨a, b1⟩ := z
      rw [e1] at ha
      obtain ⟨h1, h2, hk⟩ := ha
      have := ih n b1 (row ++ [a]) h1 (by omega) (by omega) (by simp only [List.length_append, List.length_cons, List.length_nil]; omega)
      have hstep : loopN (B_cert_Read_14 kx) (n + 1) ⟨(b, ((0 : Int), ())), f5, f6, f7, f8, row, ((j + 1 : Nat) : Int)⟩ = loopN (B_cert_Read_14 kx) n ⟨(b1, ((0 : Int), ())), f5, f6, f7, f8, row ++ [a], j⟩ := by
        rw [loop_succ]
        generalize loopN (B_cert_Read_14 kx) n = rec
        unfold B_cert_Read_14
        simp only [cond_dec, cond_eq, if_true, hset, hj]
        rw [if_pos (by omega), hk, if_pos (hlen a)]
      rw [hstep]
      simp only
      cases e2 : pL aP j b1 with
      | error e => rw [e2] at this; exact this
      | ok z =>
        obtain ⟨l, r⟩ := z
        rw [e2] at this
        obtain ⟨q1, q2, q3⟩ := this
        refine ⟨q1, by omega, ?_⟩
        rw [q3, List.append_assoc]
        rfl

theorem rd10e (kx : St2 → List Cl → Int → Cl → Option R) (n : Nat) (b : List Int) (e : Int) (he : e ≠ 0) (f5 : List Cl) (f6 : Int) (f7 : Cl) (j : Int) :
    loopN (B_cert_Read_10 kx) (n + 1) ⟨(b, (e, ())), f5, f6, f7, j⟩ = kx (b, (e, ())) f5 f6 f7 := by
  rw [loop_succ]
  unfold B_cert_Read_10
  simp only [cond_dec, cond_eq]
  rw [if_neg he]
  split <;> rfl

theorem pN_n {α : Type} (m : Int) (p : Rd α) (b : List Int) : pN m p b = match nP m b with
    | .error e => .error e
    | .ok (n, r) => pL p n.toNat r := by
  unfold pN nP
  cases uP b with
  | error e => rfl
  | ok z =>
    simp only
    split <;> rfl

theorem rd10 (kx : St2 → List Cl → Int → Cl → Option R) (f5 : List Cl) (f6 : Int) : ∀ (j n : Nat) (b : List Int) (L : List Rw), bytes b → b.length ≤ 1000000 → j < n → L.length + j ≤ 3000 →
    match pL rP j b with
    | .error e => e ≠ 0 ∧ ∃ b' L', loopN (B_cert_Read_10 kx) n ⟨(b, ((0 : Int), ())), f5, f6, (L, ()), j⟩ = kx (b', (e, ())) f5 f6 L'
    | .ok (l, r) => bytes r ∧ r.length ≤ b.length ∧ loopN (B_cert_Read_10 kx) n ⟨(b, ((0 : Int), ())), f5, f6, (L, ()), j⟩ = kx (r, ((0 : Int), ())) f5 f6 (L ++ l, ()) := by
  intro j
  induction j with
  | zero =>
    intro n b L hb hl hn hr
    obtain ⟨n, rfl⟩ : ∃ m, n = m + 1 := ⟨n - 1, by omega⟩
    refine ⟨hb, by omega, ?_⟩
    rw [loop_succ]
    unfold B_cert_Read_10
    simp only [cond_dec]
    rw [if_neg (by omega), List.append_nil]
  | succ j ih =>
    intro n b L hb hl hn hr
    have hmost : most = 4294967296 := rfl
    obtain ⟨n, rfl⟩ : ∃ m, n = m + 1 := ⟨n - 1, by omega⟩
    have hc := count_eq b 64 (by omega) hb (by omega)
    have hj : IntKind.i64.wrap (((j + 1 : Nat) : Int) - 1) = (j : Int) := by rw [w_i64 (by omega)]; omega
    have hset : ∀ a : Rw, (List.replicate 1 ([] : Rw)).set 0 a = [a] := fun _ => rfl
    have hlen : ∀ a : Rw, L.length + [a].length ≤ most := fun a => by simp only [List.length_cons, List.length_nil]; omega
    simp only [pL]
    -- an error on the way
    have herr : ∀ (e : Int), e ≠ 0 → ∀ (b' : List Int) (row' : Rw), (let v12 := [row']; cond (decide (L.length + v12.length ≤ most)) (loopN (B_cert_Read_10 kx) n ⟨(b', (e, ())), f5, f6, (L ++ v12, ()), (j : Int)⟩) none) = kx (b', (e, ())) f5 f6 (L ++ [row'], ()) := fun e he b' row' => by
      obtain ⟨m, rfl⟩ : ∃ m, n = m + 1 := ⟨n - 1, by omega⟩
      simp only [cond_dec]
      rw [if_pos (hlen _), rd10e kx m b' e he]
    have hrw : rP b = match nP 64 b with
        | .error e => .error e
        | .ok (n, r) => pL aP n.toNat r := pN_n 64 aP b
    rw [hrw]
    have hstep : ∀ (rec : X_cert_Read_10 → Option R), rec = loopN (B_cert_Read_10 kx) n → loopN (B_cert_Read_10 kx) (n + 1) ⟨(b, ((0 : Int), ())), f5, f6, (L, ()), ((j + 1 : Nat) : Int)⟩ =
        p_cert_reader_count (b, ((0 : Int), ())) 64 fun r4 b5 => loopN (B_cert_Read_14 fun w6 w7 w8 w9 w10 w11 =>
          cond (decide (w9.1.length + [w11].length ≤ most)) (rec ⟨w6, w7, w8, (w9.1 ++ [w11], w9.2), IntKind.i64.wrap (w10 - (1 : Int))⟩) none) fuel64 ⟨b5, f5, f6, (L, ()), ((j + 1 : Nat) : Int), [], r4⟩ := fun rec hrec => by
      rw [loop_succ, ← hrec]
      unfold B_cert_Read_10 fuel_cert_Read_14
      simp only [cond_dec, cond_eq, if_true, hset]
      rw [if_pos (by omega)]
      rfl
    rw [hstep _ rfl]
    cases e1 : nP 64 b with
    | error e =>
      rw [e1] at hc
      obtain ⟨he, b', hk⟩ := hc
      simp only
      rw [hk]
      refine ⟨he, b', (L ++ [[]], ()), ?_⟩
      obtain ⟨m, hm⟩ := fuel_add 1 (by omega)
      rw [hm, rd14e _ m b' e he]
      rw [hj]
      exact herr e he b' []
    | ok z =>
      obtain ⟨q, b1⟩ := z
      rw [e1] at hc
      obtain ⟨hq, hb1, hl1, hk⟩ := hc
      simp only
      rw [hk]
      obtain ⟨qn, rfl⟩ := Int.eq_ofNat_of_zero_le hq.1
      have h14 := rd14 (fun w6 w7 w8 w9 w10 w11 =>
          cond (decide (w9.1.length + [w11].length ≤ most)) (loopN (B_cert_Read_10 kx) n ⟨w6, w7, w8, (w9.1 ++ [w11], w9.2), IntKind.i64.wrap (w10 - (1 : Int))⟩) none) f5 f6 (L, ()) ((j + 1 : Nat) : Int) qn fuel64 b1 [] hb1 (by omega) (lt_fuel (by omega)) (by simp; omega)
      rw [Int.toNat_natCast]
      cases e2 : pL aP qn b1 with
      | error e =>
        rw [e2] at h14
        obtain ⟨he, b', row', hh⟩ := h14
        simp only
        refine ⟨he, b', (L ++ [row'], ()), ?_⟩
        rw [hh]
        rw [hj]
        exact herr e he b' row'
      | ok z =>
        obtain ⟨row, b2⟩ := z
        rw [e2] at h14
        obtain ⟨hb2, hl2, hh⟩ := h14
        simp only
        rw [List.nil_append] at hh
        simp only [cond_dec, hj] at hh
        rw [if_pos (hlen row)] at hh
        simp only [cond_dec]
        rw [hh]
        have := ih n b2 (L ++ [row]) hb2 (by omega) (by omega) (by simp only [List.length_append, List.length_cons, List.length_nil]; omega)
        cases e3 : pL rP j b2 with
        | error e => rw [e3] at this; exact this
        | ok z =>
          obtain ⟨l, r⟩ := z
          rw [e3] at this
          obtain ⟨q1, q2, q3⟩ := this
          refine ⟨q1, by omega, ?_⟩
          rw [q3, List.append_assoc]
          rfl

theorem rd6e (kx : St2 → List Cl → Option R) (n : Nat) (b : List Int) (e : Int) (he : e ≠ 0) (f5 : List Cl) (j : Int) :
    loopN (B_cert_Read_6 kx) (n + 1) ⟨(b, (e, ())), f5, j⟩ = kx (b, (e, ())) f5 := by
  rw [loop_succ]
  unfold B_cert_Read_6
  simp only [cond_dec, cond_eq]
  rw [if_neg he]
  split <;> rfl

theorem rd6 (kx : St2 → List Cl → Option R) : ∀ (j n : Nat) (b : List Int) (L : List Cl), bytes b → b.length ≤ 1000000 → j < n → L.length + j ≤ 100 →
    match pL cP j b with
    | .error e => e ≠ 0 ∧ ∃ b' L', loopN (B_cert_Read_6 kx) n ⟨(b, ((0 : Int), ())), L, j⟩ = kx (b', (e, ())) L'
    | .ok (l, r) => loopN (B_cert_Read_6 kx) n ⟨(b, ((0 : Int), ())), L, j⟩ = kx (r, ((0 : Int), ())) (L ++ l) := by
  intro j
  induction j with
  | zero =>
    intro n b L hb hl hn hr
    obtain ⟨n, rfl⟩ : ∃ m, n = m + 1 := ⟨n - 1, by omega⟩
    show loopN (B_cert_Read_6 kx) (n + 1) _ = _
    rw [loop_succ]
    unfold B_cert_Read_6
    simp only [cond_dec]
    rw [if_neg (by omega), List.append_nil]
  | succ j ih =>
    intro n b L hb hl hn hr
    have hmost : most = 4294967296 := rfl
    obtain ⟨n, rfl⟩ : ∃ m, n = m + 1 := ⟨n - 1, by omega⟩
    have hc := count_eq b 2000 (by omega) hb (by omega)
    have hj : IntKind.i64.wrap (((j + 1 : Nat) : Int) - 1) = (j : Int) := by rw [w_i64 (by omega)]; omega
    have hset : ∀ a : Cl, (List.replicate 1 (([] : List Rw), ())).set 0 a = [a] := fun _ => rfl
    have hlen : ∀ a : Cl, L.length + [a].length ≤ most := fun a => by simp only [List.length_cons, List.length_nil]; omega
    simp only [pL]
    have herr : ∀ (e : Int), e ≠ 0 → ∀ (b' : List Int) (row' : Cl), (let v12 := [row']; cond (decide (L.length + v12.length ≤ most)) (loopN (B_cert_Read_6 kx) n ⟨(b', (e, ())), L ++ v12, (j : Int)⟩) none) = kx (b', (e, ())) (L ++ [row']) := fun e he b' row' => by
      obtain ⟨m, rfl⟩ : ∃ m, n = m + 1 := ⟨n - 1, by omega⟩
      simp only [cond_dec]
      rw [if_pos (hlen _), rd6e kx m b' e he]
    have hrw : cP b = match nP 2000 b with
        | .error e => .error e
        | .ok (n, r) => match pL rP n.toNat r with
          | .error e => .error e
          | .ok (l, r) => .ok ((l, ()), r) := by
      unfold cP pM
      rw [pN_n]
      cases nP 2000 b with
      | error e => rfl
      | ok z =>
        simp only
        cases pL rP z.1.toNat z.2 <;> rfl
    rw [hrw]
    have hstep : loopN (B_cert_Read_6 kx) (n + 1) ⟨(b, ((0 : Int), ())), L, ((j + 1 : Nat) : Int)⟩ =
        p_cert_reader_count (b, ((0 : Int), ())) 2000 fun r4 b5 => loopN (B_cert_Read_10 fun w5 w6 w7 w8 =>
          cond (decide (w6.length + [w8].length ≤ most)) (loopN (B_cert_Read_6 kx) n ⟨w5, w6 ++ [w8], IntKind.i64.wrap (w7 - (1 : Int))⟩) none) fuel64 ⟨b5, L, ((j + 1 : Nat) : Int), ([], ()), r4⟩ := by
      rw [loop_succ]
      generalize loopN (B_cert_Read_6 kx) n = rec
      unfold B_cert_Read_6 fuel_cert_Read_10
      simp only [cond_dec, cond_eq, if_true, hset]
      rw [if_pos (by omega)]
    rw [hstep]
    cases e1 : nP 2000 b with
    | error e =>
      rw [e1] at hc
      obtain ⟨he, b', hk⟩ := hc
      simp only
      rw [hk]
      refine ⟨he, b', L ++ [([], ())], ?_⟩
      obtain ⟨m, hm⟩ := fuel_add 1 (by omega)
      rw [hm, rd10e _ m b' e he]
      rw [hj]
      exact herr e he b' ([], ())
    | ok z =>
      obtain ⟨q, b1⟩ := z
      rw [e1] at hc
      obtain ⟨hq, hb1, hl1, hk⟩ := hc
      simp only
      rw [hk]
      obtain ⟨qn, rfl⟩ := Int.eq_ofNat_of_zero_le hq.1
      have h10 := rd10 (fun w5 w6 w7 w8 =>
          cond (decide (w6.length + [w8].length ≤ most)) (loopN (B_cert_Read_6 kx) n ⟨w5, w6 ++ [w8], IntKind.i64.wrap (w7 - (1 : Int))⟩) none) L ((j + 1 : Nat) : Int) qn fuel64 b1 [] hb1 (by omega) (lt_fuel (by omega)) (by simp; omega)
      rw [Int.toNat_natCast]
      cases e2 : pL rP qn b1 with
      | error e =>
        rw [e2] at h10
        obtain ⟨he, b', row', hh⟩ := h10
        simp only
        refine ⟨he, b', L ++ [row'], ?_⟩
        rw [hh]
        rw [hj]
        exact herr e he b' row'
      | ok z =>
        obtain ⟨row, b2⟩ := z
        rw [e2] at h10
        obtain ⟨hb2, hl2, hh⟩ := h10
        simp only
        rw [List.nil_append] at hh
        simp only [cond_dec, hj] at hh
        rw [if_pos (hlen _)] at hh
        simp only [cond_dec]
        rw [hh]
        have := ih n b2 (L ++ [(row, ())]) hb2 (by omega) (by omega) (by simp only [List.length_append, List.length_cons, List.length_nil]; omega)
        cases e3 : pL cP j b2 with
        | error e => rw [e3] at this; exact this
        | ok z =>
          obtain ⟨l, r⟩ := z
          rw [e3] at this
          simp only at this ⊢
          rw [this, List.append_assoc]
          rfl

theorem read_eq (b : List Int) (K : List Cl → Int → Option R) (hb : bytes b) (hl : b.length ≤ 100000000) : p_cert_Read b K = K (readS b).1 (readS b).2 := by
  unfold p_cert_Read fuel_cert_Read_6 readS
  simp only [cond_dec]
  by_cases h : b.length > 65536
  · rw [if_pos (by omega), if_pos h]
  · rw [if_neg (by omega), if_neg h]
    have hc := count_eq b 64 (by omega) hb (by omega)
    have hrw : mP b = match nP 64 b with
        | .error e => .error e
        | .ok (n, r) => pL cP n.toNat r := pN_n 64 cP b
    rw [hrw]
    simp only [cond_eq, cond_ne]
    cases e1 : nP 64 b with
    | error e =>
      rw [e1] at hc
      obtain ⟨he, b', hk⟩ := hc
      rw [hk]
      obtain ⟨m, hm⟩ := fuel_add 1 (by omega)
      rw [hm, rd6e _ m b' e he]
      simp only
      rw [if_neg he, if_neg he]
    | ok z =>
      obtain ⟨q, b1⟩ := z
      rw [e1] at hc
      obtain ⟨hq, hb1, hl1, hk⟩ := hc
      rw [hk]
      obtain ⟨qn, rfl⟩ := Int.eq_ofNat_of_zero_le hq.1
      have h6 := fun kx => rd6 (R := R) kx qn fuel64 b1 [] hb1 (by omega) (lt_fuel (by omega)) (by simp; omega)
      simp only [Int.toNat_natCast]
      cases e2 : pL cP qn b1 with
      | error e =>
        rw [e2] at h6
        have he : e ≠ 0 := (h6 fun _ _ => none).1
        have aux : ∀ (kx : St2 → List Cl → Option R) (T : Option R), (∀ b' L', kx (b', (e, ())) L' = T) → loopN (B_cert_Read_6 kx) fuel64 ⟨(b1, ((0 : Int), ())), [], (qn : Int)⟩ = T := fun kx T h => by
          obtain ⟨_, b', L', hh⟩ := h6 kx
          rw [hh, h]
        exact aux _ _ fun b' L' => by simp only; rw [if_neg he, if_neg he]
      | ok z =>
        obtain ⟨l, r⟩ := z
        rw [e2] at h6
        rw [h6]
        simp only [List.nil_append, if_true]
        cases r with
        | nil => rw [if_neg (by simp), if_pos rfl]
        | cons x r => rw [if_pos (by simp), if_neg (by decide), if_neg (by simp)]
end
end Go.Trm.G1
