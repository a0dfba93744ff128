import Derived.Test.YthidebepdpkgkabTrmLCertModule
set_option linter.unusedVariables false
set_option linter.unusedSimpArgs false
namespace Go.Trm.G1

theorem certmod_with (m : It10) (l : List Cl) (hL : LensOk m) (hcs : (csOf m).length ≤ 70) (hbc : ∀ c ∈ csOf m, bytes c.2.1) (hok : okM l) (hs : (numsM l).length ≤ 100000000) :
    (p_cert_With m l fun r23 r24 =>
      p_ref21_Bytes l fun r25 r26 =>
      cond (r26 != (0 : Int))
      (cond (r24 == r26)
      (p_load_Same r23 zeroM fun r29 => Yes r29)
      (Yes false))
      (cond (decide (List.length (List.replicate 0 (([] : List UInt8), (([] : List (Int)), ()))) + List.length (others (csOf m)) ≤ most))
      (cond (decide (List.length (List.replicate 0 (([] : List UInt8), (([] : List (Int)), ())) ++ others (csOf m)) + List.length (List.set (List.replicate 1 (([] : List UInt8), (([] : List (Int)), ()))) 0 (([116, 114, 97, 109, 109, 101, 108, 46, 99, 108, 97, 105, 109, 115] : List UInt8), (r25, ()))) ≤ most))
      (p_cert_Of r23 fun r34 r35 =>
      cond (r24 == (0 : Int))
      (p_load_Same r23 (setCs m (List.replicate 0 (([] : List UInt8), (([] : List (Int)), ())) ++ others (csOf m) ++ List.set (List.replicate 1 (([] : List UInt8), (([] : List (Int)), ()))) 0 (([116, 114, 97, 109, 109, 101, 108, 46, 99, 108, 97, 105, 109, 115] : List UInt8), (r25, ())))) fun r37 =>
      cond r37
      (cond r35
      (p_ref21_Same r34 l fun r38 => Yes r38)
      (Yes false))
      (Yes false))
      (Yes false)) none) none)) = some () := by
  have hmost : most = 4294967296 := rfl
  have hol : (others (csOf m)).length ≤ (csOf m).length := List.length_filter_le _ _
  rw [with_eq m l _ (by omega) hok hs]
  by_cases he : (putS l).2 = 0
  · rw [if_pos he, bytes_eq l _ hok hs]
    simp only [cond_ne, if_pos he, cond_dec, List.replicate_zero, List.nil_append, List.length_nil]
    rw [if_pos (by omega), if_pos (by simp only [List.length_set, List.length_replicate]; omega)]
    obtain ⟨h1, h2, h3, h4⟩ := putS_ok he
    have hfb := full_bytes (by omega) hok h1
    have hset : (List.replicate 1 (([] : List UInt8), (([] : List (Int)), ()))).set 0 (([116, 114, 97, 109, 109, 101, 108, 46, 99, 108, 97, 105, 109, 115] : List UInt8), ((putS l).1, ())) = [(claimsName, ((putS l).1, ()))] := rfl
    rw [hset, h4]
    generalize hw : others (csOf m) ++ [(claimsName, (fullM l, ()))] = ws
    have hwl : ws.length ≤ 71 := by rw [← hw]; simp; omega
    have hisC : isC (claimsName, (fullM l, ())) = true := by unfold isC; simp
    have hwb : ∀ c ∈ ws, bytes c.2.1 := fun c hc => by
      rw [← hw] at hc
      rcases List.mem_append.1 hc with hc | hc
      · exact hbc c (List.mem_filter.1 hc).1
      · simp only [List.mem_singleton] at hc
        subst hc
        exact hfb
    rw [of_eq (setCs m ws) _ (by show ws.length ≤ _; omega) hwb]
    have hof : ofS (csOf (setCs m ws)) = (l, true) := by
      show ofS ws = _
      unfold ofS
      have hf : firstC 0 ws = ((others (csOf m)).length : Nat) := by
        rw [← hw, firstC_app _ _ _ (others_no _) hisC, Nat.zero_add]
      rw [hf, if_neg (by omega), Int.toNat_natCast]
      have hg : ws.getD (others (csOf m)).length ([], ([], ())) = (claimsName, (fullM l, ())) := by
        rw [← hw]
        simp [List.getD]
      rw [hg, read_full (okRM_of hok h1 h2) h3]
      rfl
    rw [hof]
    simp only [BEq.rfl, cond_true]
    rw [load_same_self _ _ (hL.set (by omega))]
    simp only [cond_true]
    rw [same_self l _ (by omega)]
    rfl
  · rw [if_neg he, bytes_eq l _ hok hs]
    simp only [cond_ne, if_neg he, BEq.rfl, cond_true]
    rw [load_same_self _ _ LensOk.zero]
    rfl

theorem cert_module0 (m : It10) (l : List Cl) (hL : LensOk m) (hbc : ∀ c ∈ csOf m, bytes c.2.1) (hok : okM l) : p_law21_CertModule m l Yes = some () := by
  have hmost : most = 4294967296 := rfl
  unfold p_law21_CertModule
  rw [awake21]
  simp only [cond_not, cond_true]
  have key : ∀ K : Bool → Option Unit, K false = some () → ((csOf m).length ≤ 70 → K true = some ()) → p_ref08_Short m K = some () := fun K h0 h1 => by
    obtain ⟨b, hb, hc⟩ := short8 m K hL
    rw [hb]
    cases b with
    | false => exact h0
    | true => exact h1 (hc rfl)
  refine key _ rfl fun hcs => ?_
  rw [short_eq]
  cases hs : shortB l with
  | false => rfl
  | true =>
    have hsum := short_sum hs
    simp only [cond_true]
    have hol : (others (csOf m)).length ≤ (csOf m).length := List.length_filter_le _ _
    rw [strip_eq m _ (by omega), of_eq (setCs m (others (csOf m))) _ (by show (others (csOf m)).length ≤ _; omega) (fun c hc => hbc c (List.mem_filter.1 hc).1)]
    have hof : ofS (csOf (setCs m (others (csOf m)))) = ([], false) := by
      show ofS (others (csOf m)) = _
      unfold ofS
      rw [firstC_none (others_no _), if_pos (by decide)]
    rw [hof]
    unfold fuel_law21_CertModule_10
    refine Eq.trans (law10 _ l m _ false (by omega) fuel64 0 [] (-1) (by omega) (lt_fuel (by omega)) (by simp)) ?_
    rw [List.drop_zero, List.nil_append, if_pos (show (-1 : Int) < 0 by decide)]
    have hf : (if firstC 0 (csOf m) < 0 then (-1 : Int) else firstC 0 (csOf m)) = firstC 0 (csOf m) := by
      rcases firstC_cases (csOf m) 0 with ⟨h1, _⟩ | ⟨k, _, h2, _, _⟩
      · rw [h1]; rfl
      · rw [if_neg (by omega)]
    rw [hf]
    simp only [cond_false]
    refine Eq.trans (load_same_self (setCs m (others (csOf m))) _ (hL.set (by omega))) ?_
    simp only [cond_true]
    rw [of_eq m _ (by omega) hbc]
    have hwith := certmod_with m l hL hcs hbc hok hsum
    simp only [cond_dec]
    by_cases h0 : firstC 0 (csOf m) < 0
    · have hofm : ofS (csOf m) = ([], false) := by unfold ofS; rw [if_pos h0]
      rw [if_pos h0, hofm]
      simp only [cond_false, List.length_nil, cond_ne]
      rw [if_pos (by rfl)]
      simp only [cond_dec, cond_ne] at hwith
      exact hwith
    · rw [if_neg h0]
      rcases firstC_cases (csOf m) 0 with ⟨h1, _⟩ | ⟨k, h1, h2, ⟨h3, h4⟩, _⟩
      · omega
      · have hg : (csOf m).getD (firstC 0 (csOf m)).toNat (([] : List UInt8), (([] : List (Int)), ())) = (csOf m)[k] := by
          rw [h2]
          simp [List.getD, h3]
        have hofm : ofS (csOf m) = ((readS (csOf m)[k].2.1).1, (readS (csOf m)[k].2.1).2 == 0) := by
          unfold ofS
          rw [if_neg h0]
          have hg' : (csOf m).getD (firstC 0 (csOf m)).toNat ([], ([], ())) = (csOf m)[k] := hg
          rw [hg']
        rw [hofm, cond_inB, if_pos (by rw [h2]; constructor; omega; show _ < ((csOf m).length : Int); omega)]
        show p_ref21_Read ((csOf m).getD (firstC 0 (csOf m)).toNat (([] : List UInt8), (([] : List (Int)), ()))).2.1 _ = _
        rw [hg]
        have hbk := hbc _ (List.getElem_mem h3)
        have hrd : ∀ K : List Cl → Int → Option Unit, ((readS (csOf m)[k].2.1).2 = 0 → K (readS (csOf m)[k].2.1).1 0 = some ()) → ((readS (csOf m)[k].2.1).2 ≠ 0 → ∀ e', e' ≠ 0 → K [] e' = some ()) → p_ref21_Read (csOf m)[k].2.1 K = some () := fun K g1 g2 => by
          rcases ref_read (csOf m)[k].2.1 K hbk with ⟨q1, q2⟩ | ⟨q1, e', q2, q3⟩
          · rw [q2]; exact g1 q1
          · rw [q3]; exact g2 q1 e' q2
        refine hrd _ (fun he => ?_) (fun he e' he' => ?_)
        · rw [he]
          simp only [BEq.rfl, cond_true]
          obtain ⟨r1, r2⟩ := read_back hbk he
          have hlen := putNs_len (numsM (readS (csOf m)[k].2.1).1)
          have hle : (fullM (readS (csOf m)[k].2.1).1).length ≤ 65536 := by
            rw [r2]
            by_cases hbig : (csOf m)[k].2.1.length > 65536
            · unfold readS at he
              rw [if_pos hbig] at he
              cases he
            · omega
          unfold fullM at hle
          rw [same_self _ _ (by omega)]
          simp only [cond_true]
          simp only [cond_dec, cond_ne] at hwith
          simp only [cond_ne]
          exact hwith
        · have e1 : ((readS (csOf m)[k].2.1).2 == 0) = false := by simpa using he
          have e2 : (e' == (0 : Int)) = false := by simpa using he'
          rw [e1, e2, read_bad he]
          simp only [BEq.rfl, cond_true]
          rw [same_self [] _ (by simp [numsM, numsCs])]
          simp only [cond_true]
          simp only [cond_dec, cond_ne] at hwith
          simp only [cond_ne]
          exact hwith

end Go.Trm.G1
namespace Go.Trm.G1
abbrev ModTy : Ty := .pair Ty11 Ty23
theorem cv63 {n : Nat} (h : n ≤ 2 ^ 63 - 1) : n ≤ 9223372036854775807 := by omega
theorem okB_of {l : List ((Int) × (Int) × (Int) × (Int) × (List (Int)) × Unit)} (h : okI (.sl 170 (.pair (.int .i64) (.pair (.int .i64) (.pair (.int .i64) (.pair (.int .i64) (.pair (.sl 3 (.int .i64)) .unit)))))) l) : okB l :=
  ⟨cv63 h.1, fun y hy => cv63 (h.2 y hy).2.2.2.2.1.1⟩
theorem lens_of (m : ModTy.I) (h : okI ModTy m) : LensOk m where
  types := cv63 h.1.1
  type := fun y hy => ⟨cv63 (h.1.2 y hy).1.1, cv63 (h.1.2 y hy).2.1.1⟩
  imports := cv63 h.2.1.1
  funcs := cv63 h.2.2.1.1
  func := fun y hy => ⟨cv63 (h.2.2.1.2 y hy).2.1.1, okB_of (h.2.2.1.2 y hy).2.2.1⟩
  tables := cv63 h.2.2.2.1.1
  mems := cv63 h.2.2.2.2.1.1
  globals := cv63 h.2.2.2.2.2.1.1
  global := fun y hy => okB_of (h.2.2.2.2.2.1.2 y hy).2.2.1
  exports := cv63 h.2.2.2.2.2.2.1.1
  starts := cv63 h.2.2.2.2.2.2.2.1.1
  elems := cv63 h.2.2.2.2.2.2.2.2.1.1
  elem := fun y hy => ⟨okB_of (h.2.2.2.2.2.2.2.2.1.2 y hy).2.1, cv63 (h.2.2.2.2.2.2.2.2.1.2 y hy).2.2.1.1⟩
  counts := cv63 h.2.2.2.2.2.2.2.2.2.1.1
  datas := cv63 h.2.2.2.2.2.2.2.2.2.2.1.1
  data := fun y hy => okB_of (h.2.2.2.2.2.2.2.2.2.2.1.2 y hy).2.1
  customs := cv63 h.2.2.2.2.2.2.2.2.2.2.2.1.1
theorem cert_module (m : ModTy.I) (l : ClsTy.I) (h : okI ModTy m) (hl : okI ClsTy l) : p_law21_CertModule m l Yes = some () :=
  cert_module0 m l (lens_of m h) (fun c hc => u8_bytes fun n hn => (h.2.2.2.2.2.2.2.2.2.2.2.1.2 c hc).2.1.2 n hn) (okM_of hl)
end Go.Trm.G1
