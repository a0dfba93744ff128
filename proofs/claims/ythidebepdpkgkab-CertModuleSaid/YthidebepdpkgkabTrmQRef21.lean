import Derived.Test.YthidebepdpkgkabTrmQCert
set_option linter.unusedVariables false
set_option linter.unusedSimpArgs false
namespace Go.Trm.G1

/-! The document's claims. -/
section
variable {R : Type}

theorem ref14 (kr : List Int → Int → Option R) (kx : List Cl → List Int → Bool → Int → Int → Option R) (L : List Cl) (long : Bool) (ci li : Nat) (c : Cl) (row : Rw) (hci : ci < L.length) (hc : L[ci] = c) (hli : li < c.1.length) (hrow : c.1[li] = row) (hl : row.length ≤ 1000000000) (hok : okR row) : ∀ (n i : Nat) (acc : List Int), i ≤ row.length → row.length - i < n → acc.length + (numsAs (row.drop i)).length ≤ most →
    loopN (B_ref21_Bytes_14 kr kx) n ⟨L, acc, long, ci, li, i⟩ = if rightR (row.drop i) = true then kx L (acc ++ numsAs (row.drop i)) long ci li else kr [] 2 := by
  intro n
  induction n with
  | zero => intro i acc _ h; omega
  | succ n ih =>
    intro i acc hi hn hb
    have hmost : most = 4294967296 := rfl
    rw [loop_succ]
    generalize loopN (B_ref21_Bytes_14 kr kx) n = rec at ih ⊢
    unfold B_ref21_Bytes_14
    simp only [cond_dec, cond_inB, cond_not]
    have g1 : L.getD ci (([] : List Rw), ()) = c := by simp [List.getD, hci, hc]
    have g2 : c.1.getD li ([] : Rw) = row := by simp [List.getD, hli, hrow]
    have hci' : (0 : Int) ≤ (ci : Int) ∧ (ci : Int) < L.length := by omega
    have hli' : (0 : Int) ≤ (li : Int) ∧ (li : Int) < c.1.length := by omega
    simp only [Int.toNat_natCast, g1, g2, if_pos hci', if_pos hli']
    by_cases h : i = row.length
    · rw [if_neg (by omega), List.drop_eq_nil_of_le (by omega)]
      simp [rightR, numsAs]
    · have hi' : i < row.length := by omega
      have hg : row.getD i (((0 : Int), ((0 : Int), ())), (((0 : Int), ((0 : Int), ())), ())) = row[i] := by simp [List.getD, hi']
      have hoa := hok _ (List.getElem_mem hi')
      rw [List.drop_eq_getElem_cons hi'] at hb ⊢
      rw [if_pos (by omega), if_pos (by omega), hg, ref_right_eq _ _ hoa]
      generalize row[i] = a at hoa hb ⊢
      have hr : rightR (a :: row.drop (i + 1)) = (rightB a && rightR (row.drop (i + 1))) := rfl
      rw [hr]
      cases hra : rightB a with
      | false => rfl
      | true =>
        have hnn : 0 ≤ a.2.1.1 ∧ a.2.1.1 ≤ 64 := by unfold rightB at hra; simp at hra; omega
        have hw : IntKind.u64.wrap a.2.1.1 = a.2.1.1 := w_u64 (by omega)
        have hset : ((((List.replicate 4 (0 : Int)).set 0 a.1.1).set 1 a.1.2.1).set 2 a.2.1.1).set 3 a.2.1.2.1 = numsA a := rfl
        have hi1 : IntKind.i64.wrap ((i : Int) + 1) = ((i + 1 : Nat) : Int) := by rw [w_i64 (by omega)]; rfl
        have hlen : (numsA a).length = 4 := rfl
        simp only [numsAs, List.length_append, hlen] at hb
        simp only [hw, hset, hi1, cond_true, Bool.true_and, hlen]
        rw [if_pos (by omega), ih (i + 1) _ (by omega) (by omega) (by simp only [List.length_append, hlen]; omega), List.append_assoc]
        rfl

theorem ref9 (kr : List Int → Int → Option R) (kx : List Cl → List Int → Bool → Int → Option R) (L : List Cl) (ci : Nat) (c : Cl) (hci : ci < L.length) (hc : L[ci] = c) (hl : (numsC c).length ≤ 1000000000) (hok : okC c) : ∀ (n i : Nat) (long : Bool) (acc : List Int), i ≤ c.1.length → c.1.length - i < n → acc.length + (numsRs (c.1.drop i)).length ≤ 1000000000 →
    loopN (B_ref21_Bytes_9 kr kx) n ⟨L, acc, long, ci, i⟩ = if (c.1.drop i).all rightR = true then kx L (acc ++ numsRs (c.1.drop i)) (long || (c.1.drop i).any longR) ci else kr [] 2 := by
  intro n
  induction n with
  | zero => intro i long acc _ h; omega
  | succ n ih =>
    intro i long acc hi hn hb
    have hmost : most = 4294967296 := rfl
    rw [loop_succ]
    generalize loopN (B_ref21_Bytes_9 kr kx) n = rec at ih ⊢
    unfold B_ref21_Bytes_9 fuel_ref21_Bytes_14
    have hll := numsRs_len c.1
    have hl1 : c.1.length + 1 ≤ (numsC c).length := by simp [numsC]; omega
    simp only [cond_dec, cond_inB]
    have g1 : L.getD ci (([] : List Rw), ()) = c := by simp [List.getD, hci, hc]
    have hci' : (0 : Int) ≤ (ci : Int) ∧ (ci : Int) < L.length := by omega
    simp only [Int.toNat_natCast, g1, if_pos hci']
    by_cases h : i = c.1.length
    · rw [if_neg (by omega), List.drop_eq_nil_of_le (by omega)]
      simp [numsRs]
    · have hi' : i < c.1.length := by omega
      have hg : c.1.getD i ([] : Rw) = c.1[i] := by simp [List.getD, hi']
      have hoa := hok _ (List.getElem_mem hi')
      have hi2 : (0 : Int) ≤ (i : Int) ∧ (i : Int) < c.1.length := by omega
      have h14 := ref14 (R := R) kr
      rw [List.drop_eq_getElem_cons hi'] at hb ⊢
      simp only [if_pos hi2, hg]
      rw [if_pos (by omega)]
      have key := fun (long' : Bool) (kx' : List Cl → List Int → Bool → Int → Int → Option R) (acc' : List Int) (hb' : acc'.length + (numsAs c.1[i]).length ≤ most) (hr : c.1[i].length ≤ 1000000000) => h14 kx' L long' ci i c c.1[i] hci hc hi' rfl hr hoa fuel64 0 acc' (by omega) (lt_fuel (by omega)) (by rw [List.drop_zero]; exact hb')
      generalize c.1[i] = r at hoa hb key ⊢
      have hq := numsAs_len r
      simp only [numsRs, numsR, List.length_append, List.length_cons] at hb
      have hw : IntKind.u64.wrap (r.length : Int) = (r.length : Int) := w_u64 (by omega)
      have hset : (List.replicate 1 (0 : Int)).set 0 (r.length : Int) = [(r.length : Int)] := rfl
      have hlen : (([(r.length : Int)] : List Int).length) = 1 := rfl
      have hi1 : IntKind.i64.wrap ((i : Int) + 1) = ((i + 1 : Nat) : Int) := by rw [w_i64 (by omega)]; rfl
      simp only [hw, hset, hlen]
      rw [if_pos (by omega)]
      have key2 : ∀ f4', loopN (B_ref21_Bytes_14 kr (fun w12 w13 w14 w15 w16 => rec ⟨w12, w13, w14, w15, IntKind.i64.wrap (w16 + (1 : Int))⟩)) fuel64 ⟨L, acc ++ [(r.length : Int)], f4', ci, i, (0 : Int)⟩
          = if (r :: c.1.drop (i + 1)).all rightR = true then kx L (acc ++ numsRs (r :: c.1.drop (i + 1))) (f4' || (c.1.drop (i + 1)).any longR) ci else kr [] 2 := fun f4' => by
        refine Eq.trans (key f4' _ _ (by simp only [List.length_append, hlen]; omega) (by omega)) ?_
        rw [List.drop_zero, List.all_cons]
        cases hr : rightR r with
        | false => simp
        | true =>
          simp only [if_true, Bool.true_and]
          rw [hi1, ih (i + 1) f4' _ (by omega) (by omega) (by simp only [List.length_append, hlen]; omega)]
          simp [numsRs, numsR, List.append_assoc]
      cases long with
      | true =>
        rw [cond_true]
        exact (key2 true).trans (by simp)
      | false =>
        rw [cond_false]
        refine (key2 _).trans ?_
        have e : decide ((r.length : Int) > 64) = longR r := by unfold longR; simp only [decide_eq_decide]; omega
        rw [e, List.any_cons, Bool.false_or]

theorem ref4 (kr : List Int → Int → Option R) (kx : List Int → Bool → Option R) (L : List Cl) (hl : (numsM L).length ≤ 1000000000) (hok : okM L) : ∀ (n i : Nat) (long : Bool) (acc : List Int), i ≤ L.length → L.length - i < n → acc.length + (numsCs (L.drop i)).length ≤ 1000000000 →
    loopN (B_ref21_Bytes_4 kr kx) n ⟨L, acc, long, i⟩ = if (L.drop i).all rightC = true then kx (acc ++ numsCs (L.drop i)) (long || (L.drop i).any longC) else kr [] 2 := by
  intro n
  induction n with
  | zero => intro i long acc _ h; omega
  | succ n ih =>
    intro i long acc hi hn hb
    have hmost : most = 4294967296 := rfl
    rw [loop_succ]
    generalize loopN (B_ref21_Bytes_4 kr kx) n = rec at ih ⊢
    unfold B_ref21_Bytes_4 fuel_ref21_Bytes_9
    have hll := numsCs_len L
    have hl1 : L.length + 1 ≤ (numsM L).length := by simp [numsM]; omega
    simp only [cond_dec, cond_inB]
    by_cases h : i = L.length
    · rw [if_neg (by omega), List.drop_eq_nil_of_le (by omega)]
      simp [numsCs]
    · have hi' : i < L.length := by omega
      have hg : L.getD i (([] : List Rw), ()) = L[i] := by simp [List.getD, hi']
      have hoa := hok _ (List.getElem_mem hi')
      have hi2 : (0 : Int) ≤ (i : Int) ∧ (i : Int) < L.length := by omega
      have h9 := ref9 (R := R) kr
      rw [List.drop_eq_getElem_cons hi'] at hb ⊢
      simp only [Int.toNat_natCast, if_pos hi2, hg]
      rw [if_pos (by omega)]
      have key := fun (long' : Bool) (kx' : List Cl → List Int → Bool → Int → Option R) (acc' : List Int) (hr : (numsC L[i]).length ≤ 1000000000) (hb' : acc'.length + (numsRs L[i].1).length ≤ 1000000000) (hq : L[i].1.length ≤ 1000000000) => h9 kx' L i L[i] hi' rfl hr hoa fuel64 0 long' acc' (by omega) (lt_fuel (by omega)) (by rw [List.drop_zero]; exact hb')
      generalize L[i] = r at hoa hb key ⊢
      have hq := numsRs_len r.1
      have hr1 : (numsC r).length = (numsRs r.1).length + 1 := rfl
      simp only [numsCs, List.length_append, hr1] at hb
      have hw : IntKind.u64.wrap (r.1.length : Int) = (r.1.length : Int) := w_u64 (by omega)
      have hset : (List.replicate 1 (0 : Int)).set 0 (r.1.length : Int) = [(r.1.length : Int)] := rfl
      have hlen : (([(r.1.length : Int)] : List Int).length) = 1 := rfl
      have hi1 : IntKind.i64.wrap ((i : Int) + 1) = ((i + 1 : Nat) : Int) := by rw [w_i64 (by omega)]; rfl
      simp only [hw, hset, hlen]
      rw [if_pos (by omega)]
      have key2 : ∀ f4', loopN (B_ref21_Bytes_9 kr (fun w12 w13 w14 w15 => rec ⟨w12, w13, w14, IntKind.i64.wrap (w15 + (1 : Int))⟩)) fuel64 ⟨L, acc ++ [(r.1.length : Int)], f4', i, (0 : Int)⟩
          = if (r :: L.drop (i + 1)).all rightC = true then kx (acc ++ numsCs (r :: L.drop (i + 1))) (f4' || (r.1.any longR || (L.drop (i + 1)).any longC)) else kr [] 2 := fun f4' => by
        refine Eq.trans (key f4' _ _ (by omega) (by simp only [List.length_append, hlen]; omega) (by omega)) ?_
        rw [List.drop_zero, List.all_cons]
        have hrc : rightC r = r.1.all rightR := rfl
        rw [hrc]
        cases hr : r.1.all rightR with
        | false => simp
        | true =>
          simp only [if_true, Bool.true_and]
          rw [hi1, ih (i + 1) _ _ (by omega) (by omega) (by simp only [List.length_append, hlen]; omega), Bool.or_assoc]
          simp [numsCs, numsC, List.append_assoc]
      cases long with
      | true =>
        rw [cond_true]
        exact (key2 true).trans (by simp)
      | false =>
        rw [cond_false]
        refine (key2 _).trans ?_
        have e : decide ((r.1.length : Int) > 2000) = decide (r.1.length > 2000) := by simp only [decide_eq_decide]; omega
        rw [e, List.any_cons, Bool.false_or, ← Bool.or_assoc]
        rfl

theorem ref22 (kx : Bool → List Int → Option R) (N : List Int) (long : Bool) (hl : N.length ≤ 100000000) (hN : ∀ v ∈ N, 0 ≤ v ∧ v ≤ 18446744073709551615) : ∀ (n i : Nat) (b : List Int), i ≤ N.length → N.length - i < n → b.length + 10 * (N.length - i) ≤ most →
    loopN (B_ref21_Bytes_22 kx) n ⟨N, long, b, i⟩ = kx long (b ++ putNs (N.drop i)) := by
  intro n
  induction n with
  | zero => intro i b _ h; omega
  | succ n ih =>
    intro i b hi hn hb
    have hmost : most = 4294967296 := rfl
    rw [loop_succ]
    generalize loopN (B_ref21_Bytes_22 kx) n = rec at ih ⊢
    unfold B_ref21_Bytes_22
    simp only [cond_dec, cond_inB]
    by_cases h : i = N.length
    · rw [if_neg (by omega), List.drop_eq_nil_of_le (by omega)]
      simp [putNs]
    · have hi' : i < N.length := by omega
      have hg : N.getD i 0 = N[i] := by simp [List.getD, hi']
      have hv := hN _ (List.getElem_mem hi')
      rw [List.drop_eq_getElem_cons hi', if_pos (by omega), if_pos (by omega), Int.toNat_natCast, hg]
      generalize N[i] = v at hv ⊢
      have hp := putN_len 9 v
      have hi1 : IntKind.i64.wrap ((i : Int) + 1) = ((i + 1 : Nat) : Int) := by rw [w_i64 (by omega)]; rfl
      rw [p37_eq _ _ hv.1 hv.2, if_pos (by omega), hi1, ih (i + 1) _ (by omega) (by omega) (by simp only [List.length_append]; omega), List.append_assoc]
      rfl
end

theorem numsAs_in : ∀ (r : Rw), okR r → rightR r = true → ∀ v ∈ numsAs r, 0 ≤ v ∧ v ≤ 18446744073709551615
  | [], _, _ => by simp [numsAs]
  | a :: l, hok, hr => by
    have ha := hok a (by simp)
    have hr2 : rightB a = true ∧ rightR l = true := by
      have : rightR (a :: l) = (rightB a && rightR l) := rfl
      rw [this] at hr
      simpa using hr
    have ih := numsAs_in l (fun x hx => hok x (by simp [hx])) hr2.2
    obtain ⟨h1, h2, h3, h4⟩ := ha
    have hn : 0 ≤ a.2.1.1 ∧ a.2.1.1 ≤ 64 := by have := hr2.1; unfold rightB at this; simp at this; omega
    intro v hv
    simp only [numsAs, numsA, List.cons_append, List.nil_append, List.mem_cons] at hv
    rcases hv with rfl | rfl | rfl | rfl | hv
    · exact h1
    · exact h2
    · omega
    · exact h4
    · exact ih v hv
theorem numsRs_in : ∀ (l : List Rw), (numsRs l).length ≤ 1000000000 → (∀ r ∈ l, okR r) → l.all rightR = true → ∀ v ∈ numsRs l, 0 ≤ v ∧ v ≤ 18446744073709551615
  | [], _, _, _ => by simp [numsRs]
  | r :: l, hl, hok, hr => by
    rw [List.all_cons, Bool.and_eq_true] at hr
    have hq := numsAs_len r
    simp only [numsRs, numsR, List.length_append, List.length_cons] at hl
    have ih := numsRs_in l (by omega) (fun x hx => hok x (by simp [hx])) hr.2
    have i2 := numsAs_in r (hok r (by simp)) hr.1
    intro v hv
    simp only [numsRs, numsR, List.cons_append, List.mem_cons, List.mem_append] at hv
    rcases hv with rfl | hv | hv
    · omega
    · exact i2 v hv
    · exact ih v hv
theorem numsCs_in : ∀ (l : List Cl), (numsCs l).length ≤ 1000000000 → okM l → l.all rightC = true → ∀ v ∈ numsCs l, 0 ≤ v ∧ v ≤ 18446744073709551615
  | [], _, _, _ => by simp [numsCs]
  | r :: l, hl, hok, hr => by
    rw [List.all_cons, Bool.and_eq_true] at hr
    have hq := numsRs_len r.1
    simp only [numsCs, numsC, List.length_append, List.length_cons] at hl
    have ih := numsCs_in l (by omega) (fun x hx => hok x (by simp [hx])) hr.2
    have i2 := numsRs_in r.1 (by omega) (hok r (by simp)) hr.1
    intro v hv
    simp only [numsCs, numsC, List.cons_append, List.mem_cons, List.mem_append] at hv
    rcases hv with rfl | hv | hv
    · omega
    · exact i2 v hv
    · exact ih v hv
theorem numsM_in (l : List Cl) (hl : (numsM l).length ≤ 1000000000) (hok : okM l) (hr : rightM l = true) : ∀ v ∈ numsM l, 0 ≤ v ∧ v ≤ 18446744073709551615 := by
  have hq := numsCs_len l
  simp only [numsM, List.length_cons] at hl
  have ih := numsCs_in l (by omega) hok hr
  intro v hv
  simp only [numsM, List.mem_cons] at hv
  rcases hv with rfl | hv
  · omega
  · exact ih v hv

theorem bytes_eq {R : Type} (l : List Cl) (K : List Int → Int → Option R) (hok : okM l) (hl : (numsM l).length ≤ 100000000) : p_ref21_Bytes l K = K (putS l).1 (putS l).2 := by
  have hmost : most = 4294967296 := rfl
  unfold p_ref21_Bytes fuel_ref21_Bytes_4 fuel_ref21_Bytes_22 putS
  have hn := numsCs_len l
  have hl' : (numsM l).length = (numsCs l).length + 1 := rfl
  have hw : IntKind.u64.wrap (l.length : Int) = (l.length : Int) := w_u64 (by omega)
  have hset : (List.replicate 1 (0 : Int)).set 0 (l.length : Int) = [(l.length : Int)] := rfl
  simp only [hw, hset]
  refine Eq.trans (ref4 _ _ l (by omega) hok fuel64 0 _ _ (by omega) (lt_fuel (by omega)) (by rw [List.drop_zero]; simp; omega)) ?_
  rw [List.drop_zero]
  have e1 : l.all rightC = rightM l := rfl
  have e2 : (decide ((l.length : Int) > 64) || l.any longC) = longM l := by
    unfold longM
    congr 1
    simp only [decide_eq_decide]; omega
  have e3 : [(l.length : Int)] ++ numsCs l = numsM l := rfl
  rw [e1, e2, e3]
  cases hr : rightM l with
  | false => rfl
  | true =>
    simp only [if_true]
    refine Eq.trans (ref22 _ (numsM l) (longM l) hl (numsM_in l (by omega) hok hr) fuel64 0 [] (by omega) (lt_fuel (by omega)) (by simp; omega)) ?_
    rw [List.drop_zero, List.nil_append]
    simp only [cond_dec]
    cases hlong : longM l with
    | true => simp
    | false =>
      simp only [cond_false]
      by_cases hf : 65536 < (fullM l).length
      · rw [if_pos (by show ((fullM l).length : Int) > 65536; omega)]; simp [hf]
      · rw [if_neg (by show ¬ ((fullM l).length : Int) > 65536; omega)]; simp [hf]; rfl

/-! ## Short -/
def shRows (n : Nat) : List Rw → Option Nat
  | [] => some n
  | r :: l => if n ≤ 3000 then (if 100 < r.length then none else shRows (n + r.length) l) else some n
def shCls (n : Nat) : List Cl → Bool
  | [] => true
  | c :: l => if 2100 < c.1.length then false else match shRows (n + c.1.length) c.1 with
    | none => false
    | some n => if 3000 < n then false else shCls n l
def shortB (l : List Cl) : Bool := if 70 < l.length then false else shCls 0 l

theorem shRows_le : ∀ (l : List Rw) (n m : Nat), n ≤ 6000 → shRows n l = some m → m ≤ 6000
  | [], n, m, h, e => by simp [shRows] at e; omega
  | r :: l, n, m, h, e => by
    unfold shRows at e
    split at e
    · split at e
      · cases e
      · exact shRows_le l _ m (by omega) e
    · cases e; omega
theorem shRows_sum : ∀ (l : List Rw) (n m : Nat), shRows n l = some m → m ≤ 3000 → (numsRs l).length + 4 * n ≤ l.length + 4 * m
  | [], n, m, e, h => by simp [shRows] at e; simp [numsRs]; omega
  | r :: l, n, m, e, h => by
    unfold shRows at e
    split at e
    · split at e
      · cases e
      · have := shRows_sum l _ m e h
        have hq := numsAs_len r
        simp only [numsRs, numsR, List.length_append, List.length_cons]
        omega
    · cases e; omega
theorem shCls_sum : ∀ (l : List Cl) (n : Nat), n ≤ 3000 → shCls n l = true → (numsCs l).length + 4 * n ≤ l.length + 12000
  | [], n, h, _ => by simp [numsCs]; omega
  | c :: l, n, h, e => by
    unfold shCls at e
    split at e
    · cases e
    · split at e
      · cases e
      · rename_i m hm
        split at e
        · cases e
        · have h1 := shCls_sum l m (by omega) e
          have h2 := shRows_sum _ _ _ hm (by omega)
          simp only [numsCs, numsC, List.length_append, List.length_cons]
          omega
theorem short_sum {l : List Cl} (h : shortB l = true) : (numsM l).length ≤ 100000000 := by
  unfold shortB at h
  split at h
  · cases h
  · have := shCls_sum l 0 (by omega) h
    simp only [numsM, List.length_cons]
    omega

section
variable {R : Type}
theorem sh11 (kr : Bool → Option R) (kx : List Cl → Int → Int → Option R) (L : List Cl) (ci : Nat) (c : Cl) (hci : ci < L.length) (hc : L[ci] = c) (hl : c.1.length ≤ 2100) : ∀ (n i k : Nat), i ≤ c.1.length → c.1.length - i < n → k ≤ 6000 →
    loopN (B_ref21_Short_11 kr kx) n ⟨L, k, ci, i⟩ = match shRows k (c.1.drop i) with | none => kr false | some m => kx L m ci := by
  intro n
  induction n with
  | zero => intro i k _ h; omega
  | succ n ih =>
    intro i k hi hn hk
    rw [loop_succ]
    generalize loopN (B_ref21_Short_11 kr kx) n = rec at ih ⊢
    unfold B_ref21_Short_11
    simp only [cond_dec, cond_inB]
    have g1 : L.getD ci (([] : List Rw), ()) = c := by simp [List.getD, hci, hc]
    have hci' : (0 : Int) ≤ (ci : Int) ∧ (ci : Int) < L.length := by omega
    simp only [Int.toNat_natCast, g1, if_pos hci']
    by_cases h : i = c.1.length
    · rw [if_neg (by omega), List.drop_eq_nil_of_le (by omega)]
      simp [shRows]
    · have hi' : i < c.1.length := by omega
      have hg : c.1.getD i ([] : Rw) = c.1[i] := by simp [List.getD, hi']
      have hi2 : (0 : Int) ≤ (i : Int) ∧ (i : Int) < c.1.length := by omega
      rw [List.drop_eq_getElem_cons hi', if_pos (by omega)]
      simp only [if_pos hi2, hg]
      generalize c.1[i] = r
      unfold shRows
      by_cases hk3 : k ≤ 3000
      · rw [if_pos (by omega), if_pos hk3]
        by_cases hr : 100 < r.length
        · rw [if_pos (by omega), if_pos hr]
        · rw [if_neg (by omega), if_neg hr, w_i64 (by omega), w_i64 (by omega), show ((k : Int) + (r.length : Int)) = ((k + r.length : Nat) : Int) by omega, show ((i : Int) + 1) = ((i + 1 : Nat) : Int) by omega]
          exact ih (i + 1) _ (by omega) (by omega) (by omega)
      · rw [if_neg (by omega), if_neg hk3]

theorem sh5 (kr : Bool → Option R) (kx : Option R) (L : List Cl) (hl : L.length ≤ 70) : ∀ (n i k : Nat), i ≤ L.length → L.length - i < n → k ≤ 3000 →
    loopN (B_ref21_Short_5 kr kx) n ⟨L, k, i⟩ = if shCls k (L.drop i) = true then kx else kr false := by
  intro n
  induction n with
  | zero => intro i k _ h; omega
  | succ n ih =>
    intro i k hi hn hk
    rw [loop_succ]
    generalize loopN (B_ref21_Short_5 kr kx) n = rec at ih ⊢
    unfold B_ref21_Short_5 fuel_ref21_Short_11
    simp only [cond_dec, cond_inB]
    by_cases h : i = L.length
    · rw [if_neg (by omega), List.drop_eq_nil_of_le (by omega)]
      simp [shCls]
    · have hi' : i < L.length := by omega
      have hg : L.getD i (([] : List Rw), ()) = L[i] := by simp [List.getD, hi']
      have hi2 : (0 : Int) ≤ (i : Int) ∧ (i : Int) < L.length := by omega
      have key := fun (k' : Nat) (kx' : List Cl → Int → Int → Option R) (h1 : L[i].1.length ≤ 2100) (hk' : k' ≤ 6000) => sh11 kr kx' L i L[i] hi' rfl h1 fuel64 0 k' (by omega) (lt_fuel (by omega)) hk'
      rw [List.drop_eq_getElem_cons hi', if_pos (by omega)]
      simp only [Int.toNat_natCast, if_pos hi2, hg]
      generalize L[i] = c at key ⊢
      unfold shCls
      by_cases h2 : 2100 < c.1.length
      · rw [if_pos (by omega), if_pos h2]; simp
      · rw [if_neg (by omega), if_neg h2, w_i64 (by omega), show ((k : Int) + (c.1.length : Int)) = ((k + c.1.length : Nat) : Int) by omega]
        refine Eq.trans (key _ _ (by omega) (by omega)) ?_
        rw [List.drop_zero]
        cases hs : shRows (k + c.1.length) c.1 with
        | none => simp
        | some m =>
          simp only
          by_cases hm : 3000 < m
          · rw [if_pos (by omega)]; simp [hm]
          · simp only [if_neg hm]
            rw [if_neg (by omega), w_i64 (by omega), show ((i : Int) + 1) = ((i + 1 : Nat) : Int) by omega]
            exact ih (i + 1) m (by omega) (by omega) (by omega)

theorem short_eq (l : List Cl) (K : Bool → Option R) : p_ref21_Short l K = K (shortB l) := by
  unfold p_ref21_Short fuel_ref21_Short_5 shortB
  simp only [cond_dec]
  by_cases h : 70 < l.length
  · rw [if_pos (by omega), if_pos h]
  · rw [if_neg (by omega), if_neg h]
    refine Eq.trans (sh5 _ _ l (by omega) fuel64 0 0 (by omega) (lt_fuel (by omega)) (by omega)) ?_
    rw [List.drop_zero]
    cases shCls 0 l <;> rfl

/-! ## Same, of one and the same -/
theorem same15 (kr : Bool → Option R) (kx : List Cl → List Cl → Int → Int → Option R) (a b : List Cl) (f5 f6 : Int) (r : Rw) (hl : r.length ≤ 1000000000) : ∀ (n i : Nat), i ≤ r.length → r.length - i < n →
    loopN (B_ref21_Same_15 kr kx) n ⟨a, b, f5, f6, r, r, i⟩ = kx a b f5 f6 := by
  intro n
  induction n with
  | zero => intro i _ h; omega
  | succ n ih =>
    intro i hi hn
    rw [loop_succ]
    generalize loopN (B_ref21_Same_15 kr kx) n = rec at ih ⊢
    unfold B_ref21_Same_15
    simp only [cond_dec, cond_inB, cond_not]
    by_cases h : i = r.length
    · rw [if_neg (by omega)]
    · rw [if_pos (by omega), if_pos (by omega), if_pos (by omega)]
      simp only [BEq.rfl, Bool.and_true, cond_true]
      rw [w_i64 (by omega), show ((i : Int) + 1) = ((i + 1 : Nat) : Int) by omega]
      exact ih (i + 1) (by omega) (by omega)
theorem same9 (kr : Bool → Option R) (kx : List Cl → List Cl → Int → Option R) (a : List Cl) (ci : Nat) (c : Cl) (hci : ci < a.length) (hc : a[ci] = c) (hl : (numsC c).length ≤ 1000000000) : ∀ (n i : Nat), i ≤ c.1.length → c.1.length - i < n →
    loopN (B_ref21_Same_9 kr kx) n ⟨a, a, ci, i⟩ = kx a a ci := by
  intro n
  induction n with
  | zero => intro i _ h; omega
  | succ n ih =>
    intro i hi hn
    rw [loop_succ]
    generalize loopN (B_ref21_Same_9 kr kx) n = rec at ih ⊢
    unfold B_ref21_Same_9 fuel_ref21_Same_15
    have hll := numsRs_len c.1
    have hl1 : c.1.length + 1 ≤ (numsC c).length := by simp [numsC]; omega
    simp only [cond_dec, cond_inB, cond_ne]
    have g1 : a.getD ci (([] : List Rw), ()) = c := by simp [List.getD, hci, hc]
    have hci' : (0 : Int) ≤ (ci : Int) ∧ (ci : Int) < a.length := by omega
    simp only [Int.toNat_natCast, g1, if_pos hci']
    by_cases h : i = c.1.length
    · rw [if_neg (by omega)]
    · have hi' : i < c.1.length := by omega
      have hi2 : (0 : Int) ≤ (i : Int) ∧ (i : Int) < c.1.length := by omega
      rw [if_pos (by omega)]
      have hg : c.1.getD i ([] : Rw) = c.1[i] := by simp [List.getD, hi']
      have hrl : c.1[i].length ≤ (numsRs c.1).length := by
        have : ∀ (l : List Rw) (i : Nat) (h : i < l.length), l[i].length ≤ (numsRs l).length := by
          intro l
          induction l with
          | nil => intro i h; simp at h
          | cons x l ih =>
            intro i h
            have hx := numsAs_len x
            cases i with
            | zero => simp [numsRs, numsR]; omega
            | succ i =>
              have := ih i (by simpa using h)
              simp [numsRs, numsR]; omega
        exact this _ _ hi'
      have hnc : (numsC c).length = (numsRs c.1).length + 1 := rfl
      simp only [if_pos hi2, hg, if_true]
      refine Eq.trans (same15 kr _ a a ci i c.1[i] (by omega) fuel64 0 (by omega) (lt_fuel (by omega))) ?_
      rw [w_i64 (by omega), show ((i : Int) + 1) = ((i + 1 : Nat) : Int) by omega]
      exact ih (i + 1) (by omega) (by omega)
theorem same4 (kr : Bool → Option R) (kx : Option R) (a : List Cl) (hl : (numsM a).length ≤ 1000000000) : ∀ (n i : Nat), i ≤ a.length → a.length - i < n →
    loopN (B_ref21_Same_4 kr kx) n ⟨a, a, i⟩ = kx := by
  intro n
  induction n with
  | zero => intro i _ h; omega
  | succ n ih =>
    intro i hi hn
    rw [loop_succ]
    generalize loopN (B_ref21_Same_4 kr kx) n = rec at ih ⊢
    unfold B_ref21_Same_4 fuel_ref21_Same_9
    have hll := numsCs_len a
    have hl1 : (numsCs a).length + 1 = (numsM a).length := rfl
    simp only [cond_dec, cond_inB, cond_ne]
    by_cases h : i = a.length
    · rw [if_neg (by omega)]
    · have hi' : i < a.length := by omega
      have hi2 : (0 : Int) ≤ (i : Int) ∧ (i : Int) < a.length := by omega
      rw [if_pos (by omega)]
      have hrl : (numsC a[i]).length ≤ (numsCs a).length := by
        have : ∀ (l : List Cl) (i : Nat) (h : i < l.length), (numsC l[i]).length ≤ (numsCs l).length := by
          intro l
          induction l with
          | nil => intro i h; simp at h
          | cons x l ih =>
            intro i h
            cases i with
            | zero => simp [numsCs]
            | succ i =>
              have := ih i (by simpa using h)
              simp [numsCs]; omega
        exact this _ _ hi'
      have hq := numsRs_len a[i].1
      have hnc : (numsC a[i]).length = (numsRs a[i].1).length + 1 := rfl
      simp only [if_pos hi2, if_true]
      refine Eq.trans (same9 kr _ a i a[i] hi' rfl (by omega) fuel64 0 (by omega) (lt_fuel (by omega))) ?_
      rw [w_i64 (by omega), show ((i : Int) + 1) = ((i + 1 : Nat) : Int) by omega]
      exact ih (i + 1) (by omega) (by omega)
theorem same_self (a : List Cl) (K : Bool → Option R) (hl : (numsM a).length ≤ 1000000000) : p_ref21_Same a a K = K true := by
  unfold p_ref21_Same fuel_ref21_Same_4
  have hll := numsCs_len a
  have hl1 : (numsCs a).length + 1 = (numsM a).length := rfl
  simp only [cond_ne, if_true]
  exact same4 _ _ a hl fuel64 0 (by omega) (lt_fuel (by omega))
end
end Go.Trm.G1
