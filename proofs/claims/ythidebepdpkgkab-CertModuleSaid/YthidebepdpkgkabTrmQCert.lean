import Derived.Test.YthidebepdpkgkabTrmQNum
set_option linter.unusedVariables false
set_option linter.unusedSimpArgs false
namespace Go.Trm.G1

/-! Claims as numbers and bytes. -/

abbrev Ab := ((Int) × (Int) × Unit) × ((Int) × (Int) × Unit) × Unit
abbrev Rw := List Ab
abbrev Cl := (List Rw) × Unit

def putNs : List Int → List Int
  | [] => []
  | n :: l => putN 9 n ++ putNs l
theorem putNs_app : ∀ a b, putNs (a ++ b) = putNs a ++ putNs b
  | [], b => rfl
  | n :: l, b => by simp [putNs, putNs_app l b]
theorem putNs_len : ∀ l, l.length ≤ (putNs l).length ∧ (putNs l).length ≤ 10 * l.length
  | [] => by simp [putNs]
  | n :: l => by
    have h1 := putNs_len l
    have h2 := putN_len 9 n
    simp only [putNs, List.length_append, List.length_cons]
    omega

def rightB (a : Ab) : Bool := decide (a.1.1 ≤ a.1.2.1) && (decide (0 ≤ a.2.1.1) && (decide (a.2.1.1 ≤ 64) && (a.2.1.1 == 64 || a.2.1.2.1 / 2 ^ a.2.1.1.toNat == 0)))
def okA (a : Ab) : Prop := (0 ≤ a.1.1 ∧ a.1.1 ≤ 18446744073709551615) ∧ (0 ≤ a.1.2.1 ∧ a.1.2.1 ≤ 18446744073709551615) ∧ (-9223372036854775808 ≤ a.2.1.1 ∧ a.2.1.1 ≤ 9223372036854775807) ∧ (0 ≤ a.2.1.2.1 ∧ a.2.1.2.1 ≤ 18446744073709551615)

theorem ref_right_eq {R : Type} (a : Ab) (K : Bool → Option R) (h : okA a) : p_ref21_right a K = K (rightB a) := by
  obtain ⟨h1, h2, h3, h4⟩ := h
  unfold p_ref21_right rightB
  simp only [cond_dec, cond_eq]
  by_cases g1 : a.1.1 ≤ a.1.2.1
  · by_cases g2 : 0 ≤ a.2.1.1
    · by_cases g3 : a.2.1.1 ≤ 64
      · rw [if_pos g1, if_pos g2, if_pos g3]
        by_cases g4 : a.2.1.1 = 64
        · rw [if_pos g4]; simp [g1, g4]
        · rw [if_neg g4, w_u64 (n := a.2.1.1) (by omega), if_pos g2]
          have hs : shrI .u64 a.2.1.2.1 a.2.1.1 = a.2.1.2.1 / 2 ^ a.2.1.1.toNat := by
            unfold shrI
            have : min a.2.1.1.toNat IntKind.u64.bits = a.2.1.1.toNat := by show min _ 64 = _; omega
            rw [this]
            exact Int.fdiv_eq_ediv_of_nonneg _ (by
              rw [show ((2 : Int) ^ a.2.1.1.toNat) = ((2 ^ a.2.1.1.toNat : Nat) : Int) from (Int.natCast_pow 2 _).symm]
              exact Int.natCast_nonneg _)
          rw [hs]
          have e1 : (a.2.1.1 == 64) = false := by simpa using g4
          simp [g1, g2, g3, e1]
      · rw [if_pos g1, if_pos g2, if_neg g3]; simp [g3]
    · rw [if_pos g1, if_neg g2]; simp [g2]
  · rw [if_neg g1]; simp [g1]

theorem andnot_zero (r n : Nat) (hr : r < 2 ^ 64) (hn : n ≤ 64) : (BitVec.ofNat 64 r &&& ~~~(BitVec.ofNat 64 (2 ^ n - 1))).toNat = 0 ↔ r / 2 ^ n = 0 := by
  rw [← Nat.shiftRight_eq_div_pow]
  have hbit : ∀ i, (BitVec.ofNat 64 r &&& ~~~(BitVec.ofNat 64 (2 ^ n - 1))).getLsbD i = (decide (i < 64) && (r.testBit i && !decide (i < n))) := fun i => by
    rw [BitVec.getLsbD_and, BitVec.getLsbD_not, BitVec.getLsbD_ofNat, BitVec.getLsbD_ofNat, Nat.testBit_two_pow_sub_one]
    by_cases h : i < 64 <;> simp [h]
  constructor
  · intro h
    apply Nat.eq_of_testBit_eq
    intro j
    rw [Nat.testBit_shiftRight, Nat.zero_testBit]
    have := hbit (n + j)
    rw [BitVec.getLsbD, h, Nat.zero_testBit] at this
    by_cases hj : n + j < 64
    · simp [hj] at this
      cases hb : r.testBit (n + j) with
      | false => rfl
      | true => have := this hb; omega
    · exact Nat.testBit_lt_two_pow (Nat.lt_of_lt_of_le hr (Nat.pow_le_pow_right (by omega) (by omega)))
  · intro h
    apply Nat.eq_of_testBit_eq
    intro j
    rw [Nat.zero_testBit]
    have := hbit j
    rw [BitVec.getLsbD] at this
    rw [this]
    by_cases hj : j < n
    · simp [hj]
    · have h2 : (r >>> n).testBit (j - n) = false := by rw [h, Nat.zero_testBit]
      rw [Nat.testBit_shiftRight, show n + (j - n) = j by omega] at h2
      simp [h2]

theorem low_right_eq {R : Type} (n r : Int) (K : Bool → Option R) (h4 : 0 ≤ r ∧ r ≤ 18446744073709551615) :
    p_low_Right (n, (r, ())) K = K (decide (0 ≤ n) && (decide (n ≤ 64) && (n == 64 || r / 2 ^ n.toNat == 0))) := by
  unfold p_low_Right
  simp only [cond_dec, both_self]
  by_cases g2 : 0 ≤ n
  · by_cases g3 : n ≤ 64
    · rw [if_pos g2, if_pos g3]
      have hm : ∀ K : Int → Option R, p_low_mask n K = K ((2 ^ n.toNat - 1 : Nat) : Int) := fun K => by
        unfold p_low_mask
        simp only [cond_dec]
        by_cases g4 : n = 64
        · subst g4; rfl
        · have hmx : maxI n 0 = n := by unfold maxI; split <;> omega
          rw [if_neg (by omega), hmx, w_u64 (n := n) (by omega), if_pos g2]
          congr 1
          have hlt : 2 ^ n.toNat ≤ 2 ^ 63 := Nat.pow_le_pow_right (by omega) (by omega)
          have hpos := Nat.two_pow_pos n.toNat
          have hs : shlI .u64 1 n = ((2 ^ n.toNat : Nat) : Int) := by
            unfold shlI
            have : min n.toNat IntKind.u64.bits = n.toNat := by show min _ 64 = _; omega
            rw [this, Int.one_mul, show ((2 : Int) ^ n.toNat) = ((2 ^ n.toNat : Nat) : Int) from (Int.natCast_pow 2 _).symm]
            exact w_u64 (by omega)
          rw [hs, w_u64 (by omega)]
          omega
      simp only [hm]
      obtain ⟨m, rfl⟩ := Int.eq_ofNat_of_zero_le h4.1
      have hm64 : m < 2 ^ 64 := by omega
      have e1 : BitVec.ofInt IntKind.u64.bits (m : Int) = BitVec.ofNat 64 m := by show BitVec.ofInt 64 (m : Int) = _; rw [BitVec.ofInt_natCast]
      have e2 : BitVec.ofInt IntKind.u64.bits ((2 ^ n.toNat - 1 : Nat) : Int) = BitVec.ofNat 64 (2 ^ n.toNat - 1) := by show BitVec.ofInt 64 _ = _; rw [BitVec.ofInt_natCast]
      rw [e1, e2]
      have hz := andnot_zero m n.toNat hm64 (by omega)
      have hlt : (BitVec.ofNat 64 m &&& ~~~(BitVec.ofNat 64 (2 ^ n.toNat - 1))).toNat < 2 ^ 64 := BitVec.isLt _
      have hd : (m : Int) / 2 ^ n.toNat = ((m / 2 ^ n.toNat : Nat) : Int) := by
        rw [show ((2 : Int) ^ n.toNat) = ((2 ^ n.toNat : Nat) : Int) from (Int.natCast_pow 2 _).symm]
        omega
      rw [hd]
      refine congrArg K ?_
      have e3 : ∀ z : Nat, z < 2 ^ 64 → IntKind.u64.wrap (z : Int) = z := fun z hz => w_u64 (by omega)
      refine Eq.trans (congrArg (fun z : Int => z == 0) (e3 _ hlt)) ?_
      by_cases hq : m / 2 ^ n.toNat = 0
      · have := hz.2 hq
        simp [g2, g3, hq]
        exact this
      · have h1 : ¬ (BitVec.ofNat 64 m &&& ~~~(BitVec.ofNat 64 (2 ^ n.toNat - 1))).toNat = 0 := fun h => hq (hz.1 h)
        have h64 : ¬ n = 64 := fun h => hq (by subst h; exact Nat.div_eq_of_lt hm64)
        have h1' : (((BitVec.ofNat 64 m &&& ~~~(BitVec.ofNat 64 (2 ^ n.toNat - 1))).toNat : Int) == 0) = false := by
          rw [beq_eq_false_iff_ne]; omega
        have h2' : (((m / 2 ^ n.toNat : Nat) : Int) == 0) = false := by rw [beq_eq_false_iff_ne]; omega
        have h3' : (n == 64) = false := by simpa using h64
        rw [h2', h3']
        refine Eq.trans h1' ?_
        simp
    · rw [if_pos g2, if_neg g3]; simp [g3]
  · rw [if_neg (by omega)]; simp [g2]

theorem abs_right_eq {R : Type} (a : Ab) (K : Bool → Option R) (h : okA a) : p_abs_Right a K = K (rightB a) := by
  obtain ⟨h1, h2, h3, h4⟩ := h
  unfold p_abs_Right p_ivl_Right rightB
  simp only [cond_dec]
  by_cases g1 : a.1.1 ≤ a.1.2.1
  · rw [if_pos g1]
    have := low_right_eq a.2.1.1 a.2.1.2.1 K h4
    refine Eq.trans this ?_
    simp [g1]
  · rw [if_neg g1]; simp [g1]

/-! ## numbers of claims -/
def numsA (a : Ab) : List Int := [a.1.1, a.1.2.1, a.2.1.1, a.2.1.2.1]
def numsAs : Rw → List Int
  | [] => []
  | a :: l => numsA a ++ numsAs l
def numsR (r : Rw) : List Int := (r.length : Int) :: numsAs r
def numsRs : List Rw → List Int
  | [] => []
  | r :: l => numsR r ++ numsRs l
def numsC (c : Cl) : List Int := (c.1.length : Int) :: numsRs c.1
def numsCs : List Cl → List Int
  | [] => []
  | c :: l => numsC c ++ numsCs l
def numsM (l : List Cl) : List Int := (l.length : Int) :: numsCs l

def rightR (r : Rw) : Bool := r.all rightB
def rightC (c : Cl) : Bool := c.1.all rightR
def rightM (l : List Cl) : Bool := l.all rightC
def longR (r : Rw) : Bool := decide (r.length > 64)
def longC (c : Cl) : Bool := decide (c.1.length > 2000) || c.1.any longR
def longM (l : List Cl) : Bool := decide (l.length > 64) || l.any longC
def okR (r : Rw) : Prop := ∀ a ∈ r, okA a
def okC (c : Cl) : Prop := ∀ r ∈ c.1, okR r
def okM (l : List Cl) : Prop := ∀ c ∈ l, okC c

theorem numsAs_len : ∀ r : Rw, (numsAs r).length = 4 * r.length
  | [] => rfl
  | a :: l => by simp [numsAs, numsA, numsAs_len l]; omega
theorem numsRs_len : ∀ l : List Rw, l.length ≤ (numsRs l).length
  | [] => by simp [numsRs]
  | r :: l => by have := numsRs_len l; simp [numsRs, numsR]; omega
theorem numsCs_len : ∀ l : List Cl, l.length ≤ (numsCs l).length
  | [] => by simp [numsCs]
  | c :: l => by have := numsCs_len l; simp [numsCs, numsC]; omega

/-- all claims' bytes -/
def fullM (l : List Cl) : List Int := putNs (numsM l)

/-! ## what is put, up to the bound -/
def capA (b : List Int) (a : Ab) : List Int := if b.length ≤ 65536 then b ++ putNs (numsA a) else b
def capAs (b : List Int) : Rw → List Int
  | [] => b
  | a :: l => capAs (capA b a) l
def capRs (b : List Int) : List Rw → List Int
  | [] => b
  | r :: l => capRs (capAs (b ++ putN 9 r.length) r) l
def capCs (b : List Int) : List Cl → List Int
  | [] => b
  | c :: l => capCs (capRs (b ++ putN 9 c.1.length) c.1) l

def InvC (o f : List Int) : Prop := (f.length ≤ 65536 → o = f) ∧ (65536 < f.length → 65536 < o.length)
theorem InvC.app {o f : List Int} (h : InvC o f) (x : List Int) : InvC (o ++ x) (f ++ x) := by
  obtain ⟨h1, h2⟩ := h
  constructor
  · intro g
    rw [List.length_append] at g
    rw [h1 (by omega)]
  · intro g
    by_cases hf : f.length ≤ 65536
    · rw [h1 hf]; exact g
    · rw [List.length_append]; have := h2 (by omega); omega
theorem InvC.cap {o f : List Int} (h : InvC o f) (a : Ab) : InvC (capA o a) (f ++ putNs (numsA a)) := by
  unfold capA
  by_cases ho : o.length ≤ 65536
  · rw [if_pos ho]; exact h.app _
  · rw [if_neg ho]
    obtain ⟨h1, h2⟩ := h
    have hf : 65536 < f.length := by
      by_cases hf : f.length ≤ 65536
      · have := h1 hf; subst this; omega
      · omega
    constructor
    · intro g; rw [List.length_append] at g; omega
    · intro _; omega
theorem InvC.capAs : ∀ (l : Rw) {o f : List Int}, InvC o f → InvC (capAs o l) (f ++ putNs (numsAs l))
  | [], o, f, h => by simpa [G1.capAs, numsAs, putNs] using h
  | a :: l, o, f, h => by
    have := InvC.capAs l (h.cap a)
    rw [List.append_assoc, ← putNs_app] at this
    exact this
theorem InvC.capRs : ∀ (l : List Rw) {o f : List Int}, InvC o f → InvC (capRs o l) (f ++ putNs (numsRs l))
  | [], o, f, h => by simpa [G1.capRs, numsRs, putNs] using h
  | r :: l, o, f, h => by
    have := InvC.capRs l (InvC.capAs r (h.app (putN 9 r.length)))
    simp only [List.append_assoc] at this
    simp only [G1.capRs, numsRs, numsR, putNs, putNs_app, List.cons_append]
    exact this
theorem InvC.capCs : ∀ (l : List Cl) {o f : List Int}, InvC o f → InvC (capCs o l) (f ++ putNs (numsCs l))
  | [], o, f, h => by simpa [G1.capCs, numsCs, putNs] using h
  | c :: l, o, f, h => by
    have := InvC.capCs l (InvC.capRs c.1 (h.app (putN 9 c.1.length)))
    simp only [List.append_assoc] at this
    simp only [G1.capCs, numsCs, numsC, putNs, putNs_app, List.cons_append]
    exact this
theorem capA_len (b : List Int) (a : Ab) : (capA b a).length ≤ b.length + 40 := by
  unfold capA
  have := putNs_len (numsA a)
  split
  · rw [List.length_append]; simp [numsA] at this ⊢; omega
  · omega
theorem capAs_len : ∀ (l : Rw) (b : List Int), (capAs b l).length ≤ b.length + 10 * (numsAs l).length
  | [], b => by simp [capAs]
  | a :: l, b => by
    have h1 := capAs_len l (capA b a)
    have h2 := capA_len b a
    simp only [capAs, numsAs, numsA, List.length_append, List.length_cons, List.length_nil]
    omega
theorem capRs_len : ∀ (l : List Rw) (b : List Int), (capRs b l).length ≤ b.length + 10 * (numsRs l).length
  | [], b => by simp [capRs]
  | r :: l, b => by
    have h1 := capRs_len l (capAs (b ++ putN 9 r.length) r)
    have h2 := capAs_len r (b ++ putN 9 r.length)
    have h3 := putN_len 9 (r.length : Int)
    simp only [capRs, numsRs, numsR, List.length_append, List.length_cons] at h1 h2 ⊢
    omega

/-! ## cert.Put -/
section
variable {R : Type}
theorem x0_eq (kx : Bool → List Int → Cl → List Cl → Int → Int → Option R) (f4 : Bool) (f8 : Cl) (f21 : List Cl) (f22 f23 : Int) (v : Int) (b : List Int) (h : 0 ≤ v ∧ v ≤ 18446744073709551615) (hb : b.length + 20 ≤ most) :
    loopN (B_cert_Putx0_1 kx) fuel64 ⟨f4, b, f8, f21, f22, f23, [v], 1, 0⟩ = kx f4 (b ++ putN 9 v) f8 f21 f22 f23 := by
  obtain ⟨m, hm⟩ := fuel_add 2 (by omega)
  have he : ∀ b : List Int, loopN (B_cert_Putx0_1 kx) (m + 1) ⟨f4, b, f8, f21, f22, f23, [v], 1, 1⟩ = kx f4 b f8 f21 f22 f23 := fun b => by
    rw [loop_succ]
    unfold B_cert_Putx0_1
    simp only [cond_dec]
    rw [if_neg (by omega)]
  rw [hm, show m + 2 = m + 1 + 1 from rfl, loop_succ]
  generalize loopN (B_cert_Putx0_1 kx) (m + 1) = rec at he ⊢
  unfold B_cert_Putx0_1
  simp only [cond_dec, cond_inB]
  rw [if_pos (by omega), if_pos (by simp), show [v].getD (0 : Int).toNat 0 = v from rfl, p36_eq _ _ _ h.1 h.2 hb, w_i64 (by omega)]
  exact he _
theorem x1_eq (kx : Bool → List Int → Rw → List Cl → Int → Int → List Rw → Int → Int → Option R) (f4 : Bool) (f10 : Rw) (f21 : List Cl) (f22 f23 : Int) (f42 : List Rw) (f43 f44 : Int) (v : Int) (b : List Int) (h : 0 ≤ v ∧ v ≤ 18446744073709551615) (hb : b.length + 20 ≤ most) :
    loopN (B_cert_Putx1_1 kx) fuel64 ⟨f4, b, f10, f21, f22, f23, f42, f43, f44, [v], 1, 0⟩ = kx f4 (b ++ putN 9 v) f10 f21 f22 f23 f42 f43 f44 := by
  obtain ⟨m, hm⟩ := fuel_add 2 (by omega)
  have he : ∀ b : List Int, loopN (B_cert_Putx1_1 kx) (m + 1) ⟨f4, b, f10, f21, f22, f23, f42, f43, f44, [v], 1, 1⟩ = kx f4 b f10 f21 f22 f23 f42 f43 f44 := fun b => by
    rw [loop_succ]
    unfold B_cert_Putx1_1
    simp only [cond_dec]
    rw [if_neg (by omega)]
  rw [hm, show m + 2 = m + 1 + 1 from rfl, loop_succ]
  generalize loopN (B_cert_Putx1_1 kx) (m + 1) = rec at he ⊢
  unfold B_cert_Putx1_1
  simp only [cond_dec, cond_inB]
  rw [if_pos (by omega), if_pos (by simp), show [v].getD (0 : Int).toNat 0 = v from rfl, p36_eq _ _ _ h.1 h.2 hb, w_i64 (by omega)]
  exact he _
theorem x2_step (kx : Bool → List Int → List Cl → Int → Int → List Rw → Int → Int → Rw → Int → Int → Option R) (m : Nat) (f4 : Bool) (f21 : List Cl) (f22 f23 : Int) (f42 : List Rw) (f43 f44 : Int) (f60 : Rw) (f61 f62 : Int) (L : List Int) (i : Nat) (hi : i < 4) (v : Int) (b : List Int) (hL : L.length = 4) (hv : L.getD i 0 = v) (h : 0 ≤ v ∧ v ≤ 18446744073709551615) (hb : b.length + 20 ≤ most) :
    loopN (B_cert_Putx2_1 kx) (m + 1) ⟨f4, b, f21, f22, f23, f42, f43, f44, f60, f61, f62, L, 4, i⟩ = loopN (B_cert_Putx2_1 kx) m ⟨f4, b ++ putN 9 v, f21, f22, f23, f42, f43, f44, f60, f61, f62, L, 4, ((i + 1 : Nat) : Int)⟩ := by
  rw [loop_succ]
  generalize loopN (B_cert_Putx2_1 kx) m = rec
  unfold B_cert_Putx2_1
  simp only [cond_dec, cond_inB]
  rw [if_pos (by omega), if_pos (by omega), Int.toNat_natCast, hv, p36_eq _ _ _ h.1 h.2 hb, w_i64 (by omega)]
  rfl
theorem x2_eq (kx : Bool → List Int → List Cl → Int → Int → List Rw → Int → Int → Rw → Int → Int → Option R) (f4 : Bool) (f21 : List Cl) (f22 f23 : Int) (f42 : List Rw) (f43 f44 : Int) (f60 : Rw) (f61 f62 : Int) (a : Ab) (b : List Int) (h : okA a) (hr : rightB a = true) (hb : b.length + 100 ≤ most) :
    loopN (B_cert_Putx2_1 kx) fuel64 ⟨f4, b, f21, f22, f23, f42, f43, f44, f60, f61, f62, numsA a, 4, 0⟩ = kx f4 (b ++ putNs (numsA a)) f21 f22 f23 f42 f43 f44 f60 f61 f62 := by
  obtain ⟨m, hm⟩ := fuel_add 5 (by omega)
  obtain ⟨h1, h2, h3, h4⟩ := h
  have hn : 0 ≤ a.2.1.1 ∧ a.2.1.1 ≤ 64 := by unfold rightB at hr; simp at hr; omega
  have l1 := putN_len 9 a.1.1
  have l2 := putN_len 9 a.1.2.1
  have l3 := putN_len 9 a.2.1.1
  rw [hm, show (0 : Int) = ((0 : Nat) : Int) from rfl]
  rw [x2_step (L := numsA a) (i := 0) (hi := by omega) (hL := rfl) (v := a.1.1) (hv := rfl) (h := h1) (hb := by omega), x2_step (L := numsA a) (i := 1) (hi := by omega) (hL := rfl) (v := a.1.2.1) (hv := rfl) (h := h2) (hb := by simp only [List.length_append]; omega),
    x2_step (L := numsA a) (i := 2) (hi := by omega) (hL := rfl) (v := a.2.1.1) (hv := rfl) (h := by omega) (hb := by simp only [List.length_append]; omega), x2_step (L := numsA a) (i := 3) (hi := by omega) (hL := rfl) (v := a.2.1.2.1) (hv := rfl) (h := h4) (hb := by simp only [List.length_append]; omega), loop_succ]
  unfold B_cert_Putx2_1
  simp only [cond_dec]
  rw [if_neg (by omega)]
  simp [putNs, numsA, List.append_assoc]

theorem put15 (kr : List Int → Int → Option R) (kx : Bool → List Int → List Cl → Int → Int → List Rw → Int → Int → Option R) (f4 : Bool) (f21 : List Cl) (f22 f23 : Int) (f42 : List Rw) (f43 f44 : Int) (row : Rw) (hl : row.length ≤ 4611686018427387904) (hok : okR row) : ∀ (n i : Nat) (b : List Int), i ≤ row.length → row.length - i < n → b.length + 10 * (numsAs (row.drop i)).length + 200 ≤ most →
    loopN (B_cert_Put_15 kr kx) n ⟨f4, b, f21, f22, f23, f42, f43, f44, row, row.length, i⟩ = if rightR (row.drop i) = true then kx f4 (capAs b (row.drop i)) f21 f22 f23 f42 f43 f44 else kr [] 2 := by
  intro n
  induction n with
  | zero => intro i b _ h; omega
  | succ n ih =>
    intro i b hi hn hb
    rw [loop_succ]
    generalize loopN (B_cert_Put_15 kr kx) n = rec at ih ⊢
    unfold B_cert_Put_15 fuel_cert_Putx2_1
    simp only [cond_dec, cond_inB, cond_not]
    by_cases h : i = row.length
    · rw [if_neg (by omega), List.drop_eq_nil_of_le (by omega)]
      simp [rightR, capAs]
    · have hi' : i < row.length := by omega
      have hg : row.getD i (((0 : Int), ((0 : Int), ())), (((0 : Int), ((0 : Int), ())), ())) = row[i] := by simp [List.getD, hi']
      have hoa := hok _ (List.getElem_mem hi')
      rw [List.drop_eq_getElem_cons hi'] at hb ⊢
      rw [if_pos (by omega), if_pos (by omega), Int.toNat_natCast, hg, abs_right_eq _ _ hoa]
      generalize row[i] = a at hoa hb ⊢
      have hr : rightR (a :: row.drop (i + 1)) = (rightB a && rightR (row.drop (i + 1))) := rfl
      rw [hr]
      cases hra : rightB a with
      | false => rfl
      | true =>
        simp only [cond_true, Bool.true_and, capAs]
        have hnn : 0 ≤ a.2.1.1 ∧ a.2.1.1 ≤ 64 := by unfold rightB at hra; simp at hra; omega
        have hw : IntKind.u64.wrap a.2.1.1 = a.2.1.1 := w_u64 (by omega)
        have hset : ((((List.replicate 4 (0 : Int)).set 0 a.1.1).set 1 a.1.2.1).set 2 a.2.1.1).set 3 a.2.1.2.1 = numsA a := rfl
        have hlen : ((numsA a).length : Int) = 4 := rfl
        have hi1 : IntKind.i64.wrap ((i : Int) + 1) = ((i + 1 : Nat) : Int) := by rw [w_i64 (by omega)]; rfl
        simp only [hw, hset, hlen, hi1]
        simp only [numsAs, numsA, List.length_append, List.length_cons, List.length_nil] at hb
        have hc := capA_len b a
        have := ih (i + 1) (capA b a) (by omega) (by omega) (by omega)
        unfold capA at this ⊢
        by_cases hcap : b.length ≤ 65536
        · rw [if_pos (by omega), x2_eq _ _ _ _ _ _ _ _ _ _ _ _ _ hoa hra (by omega)]
          rw [if_pos hcap] at this ⊢
          rw [hi1]
          exact this
        · rw [if_neg (by omega)]
          rw [if_neg hcap] at this ⊢
          exact this

theorem put10 (kr : List Int → Int → Option R) (kx : Bool → List Int → List Cl → Int → Int → Option R) (f21 : List Cl) (f22 f23 : Int) (L : List Rw) (hl : L.length ≤ 4611686018427387904) (hok : ∀ r ∈ L, okR r) : ∀ (n i : Nat) (f4 : Bool) (b : List Int), i ≤ L.length → L.length - i < n → b.length + 10 * (numsRs (L.drop i)).length + 200 ≤ most →
    loopN (B_cert_Put_10 kr kx) n ⟨f4, b, f21, f22, f23, L, L.length, i⟩ = if (L.drop i).all rightR = true then kx (f4 || (L.drop i).any longR) (capRs b (L.drop i)) f21 f22 f23 else kr [] 2 := by
  intro n
  induction n with
  | zero => intro i f4 b _ h; omega
  | succ n ih =>
    intro i f4 b hi hn hb
    have hmost : most = 4294967296 := rfl
    rw [loop_succ]
    generalize loopN (B_cert_Put_10 kr kx) n = rec at ih ⊢
    unfold B_cert_Put_10 fuel_cert_Putx1_1 fuel_cert_Put_15
    simp only [cond_dec, cond_inB]
    by_cases h : i = L.length
    · rw [if_neg (by omega), List.drop_eq_nil_of_le (by omega)]
      simp [capRs]
    · have hi' : i < L.length := by omega
      have hg : L.getD i ([] : Rw) = L[i] := by simp [List.getD, hi']
      have hoa := hok _ (List.getElem_mem hi')
      rw [List.drop_eq_getElem_cons hi'] at hb ⊢
      rw [if_pos (by omega), if_pos (by omega), Int.toNat_natCast, hg]
      generalize L[i] = r at hoa hb ⊢
      have hp := putN_len 9 (r.length : Int)
      have hq := numsAs_len r
      simp only [numsRs, numsR, List.length_append, List.length_cons] at hb
      have hw : IntKind.u64.wrap (r.length : Int) = (r.length : Int) := w_u64 (by omega)
      have hset : (List.replicate 1 (0 : Int)).set 0 (r.length : Int) = [(r.length : Int)] := rfl
      have hlen : (([(r.length : Int)] : List Int).length : Int) = 1 := rfl
      have hca := capAs_len r (b ++ putN 9 r.length)
      simp only [List.length_append] at hca
      have key : ∀ f4', (loopN (B_cert_Putx1_1 (fun w7 w8 w9 w10 w11 w12 w13 w14 w15 =>
          loopN (B_cert_Put_15 kr (fun w19 w20 w21 w22 w23 w24 w25 w26 => rec ⟨w19, w20, w21, w22, w23, w24, w25, IntKind.i64.wrap (w26 + (1 : Int))⟩)) fuel64 ⟨w7, w8, w10, w11, w12, w13, w14, w15, w9, ((List.length w9 : Nat) : Int), (0 : Int)⟩)) fuel64 ⟨f4', b, r, f21, f22, f23, L, L.length, i, [(r.length : Int)], 1, (0 : Int)⟩)
          = if (r :: L.drop (i + 1)).all rightR = true then kx (f4' || (L.drop (i + 1)).any longR) (capRs b (r :: L.drop (i + 1))) f21 f22 f23 else kr [] 2 := fun f4' => by
        rw [x1_eq _ _ _ _ _ _ _ _ _ _ _ (by omega) (by omega)]
        refine Eq.trans (put15 kr _ f4' f21 f22 f23 L L.length i r (by omega) hoa fuel64 0 _ (by omega) (lt_fuel (by omega)) (by rw [List.drop_zero]; simp only [List.length_append]; omega)) ?_
        rw [List.drop_zero, List.all_cons]
        cases hr : rightR r with
        | false => simp
        | true =>
          simp only [if_true, Bool.true_and, capRs]
          rw [w_i64 (n := (i : Int) + 1) (by omega), show ((i : Int) + 1) = ((i + 1 : Nat) : Int) by omega]
          exact ih (i + 1) f4' _ (by omega) (by omega) (by omega)
      rw [hw, hset, hlen]
      cases f4 with
      | true =>
        rw [cond_true]
        exact (key true).trans (by simp)
      | false =>
        rw [cond_false]
        refine (key _).trans ?_
        have e : decide ((r.length : Int) > 64) = longR r := by unfold longR; simp only [decide_eq_decide]; omega
        rw [e, List.any_cons, Bool.false_or]

theorem put5 (kr : List Int → Int → Option R) (kx : Bool → List Int → Option R) (L : List Cl) (hl : L.length ≤ 4611686018427387904) (hok : okM L) : ∀ (n i : Nat) (f4 : Bool) (b : List Int), i ≤ L.length → L.length - i < n → b.length + 10 * (numsCs (L.drop i)).length + 200 ≤ most →
    loopN (B_cert_Put_5 kr kx) n ⟨f4, b, L, L.length, i⟩ = if (L.drop i).all rightC = true then kx (f4 || (L.drop i).any longC) (capCs b (L.drop i)) else kr [] 2 := by
  intro n
  induction n with
  | zero => intro i f4 b _ h; omega
  | succ n ih =>
    intro i f4 b hi hn hb
    have hmost : most = 4294967296 := rfl
    rw [loop_succ]
    generalize loopN (B_cert_Put_5 kr kx) n = rec at ih ⊢
    unfold B_cert_Put_5 fuel_cert_Putx0_1 fuel_cert_Put_10
    simp only [cond_dec, cond_inB]
    by_cases h : i = L.length
    · rw [if_neg (by omega), List.drop_eq_nil_of_le (by omega)]
      simp [capCs]
    · have hi' : i < L.length := by omega
      have hg : L.getD i (([] : List Rw), ()) = L[i] := by simp [List.getD, hi']
      have hoa := hok _ (List.getElem_mem hi')
      rw [List.drop_eq_getElem_cons hi'] at hb ⊢
      rw [if_pos (by omega), if_pos (by omega), Int.toNat_natCast, hg]
      generalize L[i] = r at hoa hb ⊢
      have hp := putN_len 9 (r.1.length : Int)
      have hq := numsRs_len r.1
      simp only [numsCs, numsC, List.length_append, List.length_cons] at hb
      have hw : IntKind.u64.wrap (r.1.length : Int) = (r.1.length : Int) := w_u64 (by omega)
      have hset : (List.replicate 1 (0 : Int)).set 0 (r.1.length : Int) = [(r.1.length : Int)] := rfl
      have hlen : (([(r.1.length : Int)] : List Int).length : Int) = 1 := rfl
      have hca := capRs_len r.1 (b ++ putN 9 r.1.length)
      simp only [List.length_append] at hca
      have key : ∀ f4', (loopN (B_cert_Putx0_1 (fun w7 w8 w9 w10 w11 w12 =>
          loopN (B_cert_Put_10 kr (fun w16 w17 w18 w19 w20 => rec ⟨w16, w17, w18, w19, IntKind.i64.wrap (w20 + (1 : Int))⟩)) fuel64 ⟨w7, w8, w10, w11, w12, w9.1, ((List.length w9.1 : Nat) : Int), (0 : Int)⟩)) fuel64 ⟨f4', b, r, L, L.length, i, [(r.1.length : Int)], 1, (0 : Int)⟩)
          = if (r :: L.drop (i + 1)).all rightC = true then kx (f4' || (r.1.any longR || (L.drop (i + 1)).any longC)) (capCs b (r :: L.drop (i + 1))) else kr [] 2 := fun f4' => by
        rw [x0_eq _ _ _ _ _ _ _ _ (by omega) (by omega)]
        refine Eq.trans (put10 kr _ L L.length i r.1 (by omega) hoa fuel64 0 f4' _ (by omega) (lt_fuel (by omega)) (by rw [List.drop_zero]; simp only [List.length_append]; omega)) ?_
        rw [List.drop_zero, List.all_cons]
        have hrc : rightC r = r.1.all rightR := rfl
        rw [hrc]
        cases hr : r.1.all rightR with
        | false => simp
        | true =>
          simp only [if_true, Bool.true_and, capCs]
          rw [w_i64 (n := (i : Int) + 1) (by omega), show ((i : Int) + 1) = ((i + 1 : Nat) : Int) by omega, ← Bool.or_assoc]
          exact ih (i + 1) _ _ (by omega) (by omega) (by omega)
      rw [hw, hset, hlen]
      cases f4 with
      | true =>
        rw [cond_true]
        exact (key true).trans (by simp)
      | false =>
        rw [cond_false]
        refine (key _).trans ?_
        have e : decide ((r.1.length : Int) > 2000) = decide (r.1.length > 2000) := by simp only [decide_eq_decide]; omega
        rw [e, List.any_cons, Bool.false_or, ← Bool.or_assoc]
        rfl
end

/-- what Put says -/
def putS (l : List Cl) : List Int × Int := if rightM l = true then (if longM l = true ∨ 65536 < (fullM l).length then ([], 4) else (fullM l, 0)) else ([], 2)

theorem put_eq {R : Type} (l : List Cl) (K : List Int → Int → Option R) (hok : okM l) (hl : (numsM l).length ≤ 100000000) : p_cert_Put l K = K (putS l).1 (putS l).2 := by
  have hmost : most = 4294967296 := rfl
  unfold p_cert_Put fuel_cert_Put_5 putS
  have hn := numsCs_len l
  simp only [numsM, List.length_cons] at hl
  have hp := putN_len 9 (l.length : Int)
  simp only []
  rw [w_u64 (n := (l.length : Int)) (by omega), p36_eq _ _ _ (by omega) (by omega) (by simp; omega), List.nil_append]
  refine Eq.trans (put5 _ _ l (by omega) hok fuel64 0 _ _ (by omega) (lt_fuel (by omega)) (by rw [List.drop_zero]; omega)) ?_
  rw [List.drop_zero]
  have e1 : l.all rightC = rightM l := rfl
  have e2 : (decide ((l.length : Int) > 64) || l.any longC) = longM l := by
    unfold longM
    congr 1
    simp only [decide_eq_decide]; omega
  rw [e1, e2]
  have hinv : InvC (capCs (putN 9 l.length) l) (fullM l) := by
    have h0 : InvC (putN 9 l.length) (putN 9 l.length) := ⟨fun _ => rfl, fun h => h⟩
    exact InvC.capCs l h0
  obtain ⟨h1, h2⟩ := hinv
  cases hr : rightM l with
  | false => rfl
  | true =>
    simp only [if_true, cond_dec]
    cases hlong : longM l with
    | true => simp
    | false =>
      simp only [cond_false]
      by_cases hf : 65536 < (fullM l).length
      · rw [if_pos (by have := h2 hf; omega)]; simp [hf]
      · have := h1 (by omega)
        rw [this, if_neg (by omega)]; simp [hf]

end Go.Trm.G1
