import Derived.Test.YtiooemenojlbjaaGreatTrmOps5
set_option linter.unusedVariables false
set_option linter.unusedSimpArgs false
namespace Go.Trm

theorem own_nj {t : Ty} {m : Md} {p : List PE} (h : rootB t p = true) (ho : ownP t m p) : m ≠ .j := by
  rintro rfl
  unfold rootB at h
  split at h
  · simp [ownP] at ho
  · simp [ownP] at ho
  · cases h

theorem rootB_app {t : Ty} {p q : List PE} (h : rootB t p = true) : rootB t (p ++ q) = true := by
  unfold rootB at h
  split at h
  · rfl
  · rfl
  · cases h

section
variable {P : Program} {env : Env} {e : Entry} {F : Blks} {w : World} {st : St} {V : Nat → Value} {fp : Nat → Blks} {fl : Blks} {a : Act} {o : Oper} {R : Type} {K : Unit → St → Option R} {res : R} {C : Cx R} {gh : Nat → Value} {next : Act → World → Prop} {Q : Exit → Act → World → Prop}

theorem wt_of_eqb {T : TypeId} {t : Ty} (hE : EnvTy P env) (h : env.is T t = true) : wt P t T = true := Env.is_ok hE h

theorem store_fin {r : Nat} {p : List PE} {w' : World} {st2 : St} {fp2 : Nat → Blks} (hS2 : SR e F w' st2 V fp2 none') (hA : AR env gh a V)
    (h : (match env.fs r, p with
      | true, [.der] => .get r fun w => match w with
        | .v (.ptr T' t') (.o m') (some y') => match m'.noJ with
          | true => freeze (some (r, [])) (fin env o .un)
          | false => .fail
        | _ => .fail
      | _, _ => fin env o .un : RM Unit).run C st2 K = some res) :
    ∃ F' st' V' fp', K () st' = some res ∧ SR e F' w' st' V' fp' (fun _ => False) ∧ AR env gh (a.put o.dst undef) V' := by
  split at h
  · simp only [RM.run] at h
    split at h
    · rename_i T' t' m' y' hst
      split at h
      · have hsv := hS2.sv r
        rw [hst] at hsv
        have hd : DataAt F w' st2 V (V r) (.ptr T' t') (.o m') (some y') (some (r, [])) :=
          ⟨nofun, _, _, _, hst, some y', by simp only [getP], by simp [ownP], by simp [inP], cv (V r), none, by simp [rs], by
            have h1 : V r = valOf (.ptr T' t') (cv (V r)) := hsv.1 nofun
            have h2 := PartOf.all (c' := cv (V r)) (.ptr T' t') (some y')
            rwa [← h1] at h2⟩
        obtain ⟨st1, fp1, F1, h2, hS1, hF1, _, _⟩ := freeze_inv hS2 hd nofun h
        obtain ⟨st', V', fp', k1, k2, k3⟩ := fin_invO (v := undef) (fq := none') hS1 hA rfl h2 trivial (fun _ hb => hb)
        exact ⟨F1, st', V', fp', k1, k2, k3⟩
      · simp [RM.run] at h
    · simp [RM.run] at h
  · obtain ⟨st', V', fp', k1, k2, k3⟩ := fin_invO (v := undef) (fq := none') hS2 hA rfl h trivial (fun _ hb => hb)
    exact ⟨F, st', V', fp', k1, k2, k3⟩

theorem op_store {T : TypeId} {ad x : Operand} (hE : EnvTy P env) (ho : o.op = .store T ad x) (hS : SR e F w st V fp none') (hA : AR env gh a V) (hN : Nxt env gh e K res next) (h : (evOp env o).run C st K = some res) : o.wp P a w next Q := by
  simp only [evOp, ho, rdT] at h
  obtain ⟨t, m, y, src, h1, hd, _⟩ := rdV_inv hS hA h
  obtain ⟨st1, fp1, fq, h2, hS1, hv, hm, hrep, hfl, _⟩ := take_inv hS hd h1
  have h1' : t.agg = false → one (a.eval x) := fun ha => by
    have := rep_one hrep hm ha
    have hv' : a.eval x = valOf t (cv (a.eval x)) := hv
    rw [hv']
    simp only [valOf, ha, Bool.false_eq_true, if_false]
    exact this
  have hsz := val_size hv h1'
  split at h2
  · rename_i hT
    simp only [Bool.and_eq_true] at hT
    rcases rdP_inv hS1 hA h2 with ⟨r, p, h3, hal⟩ | ⟨t', y', b, k, h3, _⟩
    · obtain ⟨m, fq, F, fl1, h3, hS1, hrep, hfq, hnJ, _⟩ := meltP_inv hS1 hrep (fun b hb => .inr hb) hT.2 h3
      simp only [setAt, RM.run] at h3
      split at h3
      · rename_i t0 m0 x0 hr
        split at h3
        · rename_i u mu y0 hg
          split at h3
          · rename_i y' hc
            split at h3
            · rename_i m' x' hset
              simp only [RM.run] at h3
              obtain ⟨eu, hy⟩ := castI_some hc
              subst eu
              simp only at hy
              subst hy
              obtain ⟨b, k, fold, e1, e2, e3, e4, P', e5, e6⟩ := place_info hS1 hal hr hg
              have hrb := (hal t0 m0 x0 hr).1
              have hl : ∀ c ∈ (a.eval x).cells.toList, c.oneCell' = true := by
                intro c hc
                obtain ⟨j, hj, rfl⟩ := List.getElem_of_mem hc
                have := rep_ones hrep hnJ j (by simpa [hsz] using hj)
                simpa [cv, Array.getD_eq_getD_getElem?, show j < (a.eval x).cells.size by simpa using hj] using this
              obtain ⟨c1, c2, c3⟩ := store_chg (v := a.eval x) e6 hsz
              have hrun : (execOp a.eval o).run P w = .ok .skip (w.setCells b k (a.eval x).cells.toList) := by
                simp only [execOp, ho, e1, Instr.storeAt, Instr.sureAddr, Sem.run_bind, Sem.run_pure, Result.andThen_ok, pure_bind, run_storeVar (Env.is_ok hE hT.1) e6 hsz hl]
              have hb := (P'.lies b k rfl).1
              have hrep' : rep F (w.setCells b k (a.eval x).cells.toList) t m y (rowW (w.setCells b k (a.eval x).cells.toList) b k) fq := by
                refine rep_cells (fun j hj => (c3 j hj).symm) (rep_frame (fun _ hb => hb) (fun b' hb' => c1.1 b' ?_) (fun b' hb' => c1.1 b' ?_) hrep)
                · rintro rfl; exact hS1.notF _ _ hb hb'
                · rintro rfl; exact hS1.flD _ _ hb (hfq _ hb')
              have hS2 := hS1.place hr (own_nj hrb e3) P' e4 e3 e2 hset (fun _ hb => hb) c2 (still_set _ _ _ _) c1 hrep' (fun b hb => .inr (hfq b hb)) (fl' := none') (fun _ hb => hb.elim) (fun b hb => .inl hb)
              obtain ⟨F', st', V', fp', k1, k2, k3⟩ := store_fin hS2 hA h3
              exact wp_skipped hrun (hN _ _ _ _ _ _ k2 k3 k1)
            · simp [RM.run] at h3
          · simp [RM.run] at h3
        · simp [RM.run] at h3
      · simp [RM.run] at h3
    · simp [RM.run] at h3
  · simp [RM.run] at h2

theorem al_lz {val : Value} {r : Nat} {p : List PE} {t0 : Ty} {m0 : Md} {x0 : t0.I} {T : TypeId} {t : Ty} {m : Md} {y : t.I} (hS : SR e F w st V fp fl) (hsv : LzOk w st V r p val) (hr0 : st r = .v t0 m0 x0) (hg : getP t0 m0 x0 p = some ⟨.ptr T t, .o m, some y⟩) (hrb : rootB t0 (p ++ [.der]) = true) :
    AlOk w st V r (p ++ [.der]) val := by
  intro t1 m1 x1 h2
  rw [hr0] at h2
  cases h2
  obtain ⟨a1, a2, u1, c1, ad, a3, a4⟩ := hsv t0 m0 x0 hr0
  have hrr := hS.sv r
  rw [hr0] at hrr
  obtain ⟨c2, ad2, fp2, b1, b2, b3⟩ := rep_get (ad := none) hrr.2 hg a2 nofun
  rw [a3] at b1
  simp only [Option.some.injEq, Prod.mk.injEq] at b1
  obtain ⟨rfl, rfl, rfl⟩ := b1
  simp only [rep] at b2
  obtain ⟨A, e1, ad', rfl, hsp, e2, e3, f, e4, e5⟩ := b2
  obtain ⟨b, k, sp⟩ := ad'
  simp only at hsp
  subst hsp
  refine ⟨hrb, ownP_app hg a1 (by simp [ownP]), inP_app hg a2 (by simp [inP]), t, rowW w b k, b, k, ?_, ?_⟩
  · rw [rs_app a3]
    simp only [rs, e1]
  · rw [a4]
    simp only [valOf, Ty.agg, Bool.false_eq_true, if_false]
    exact e1

theorem al_ptr {val : Value} {r : Nat} {p : List PE} {t0 : Ty} {m0 : Md} {x0 : t0.I} (h : AlOk w st V r p val) (hr0 : st r = .v t0 m0 x0) : ∃ b k, val = .pointer (some ⟨b, k, none⟩) := by
  obtain ⟨_, _, _, _, _, b, k, _, h⟩ := h t0 m0 x0 hr0
  exact ⟨b, k, h⟩

theorem op_nilCheck {x : Operand} (ho : o.op = .nilCheck x) (hS : SR e F w st V fp none') (hA : AR env gh a V) (hN : Nxt env gh e K res next) (h : (evOp env o).run C st K = some res) : wpp P o a w next := by
  have hrun : ∀ A, a.eval x = .pointer (some A) → ∀ w, (execOp a.eval o).run P w = .ok (.value (a.eval x)) w := by
    intro A hx
    simp [execOp, ho, hx]
  simp only [evOp, ho] at h
  obtain ⟨sv, h1, hx⟩ := rdO_inv h
  rcases hx with ⟨s, rfl, hs, rfl⟩ | ⟨c, rfl, rfl⟩ | ⟨f, rfl, rfl⟩
  · have hev : a.eval (.tmp s) = V (env.b + s) := hA.tmps s hs
    have hsv := hS.sv (env.b + s)
    split at h1
    · rename_i T t y hst
      rw [hst] at hsv
      cases y with
      | none => simp [RM.run] at h1
      | some y =>
        have hv : V (env.b + s) = valOf (.ptr T t) (cv (V (env.b + s))) := hsv.1 nofun
        have hr := hsv.2
        simp only [rep] at hr
        obtain ⟨A, e1, ad, rfl, _⟩ := hr
        have : V (env.b + s) = .pointer (some ad) := by
          rw [hv]
          simp only [valOf, Ty.agg, Bool.false_eq_true, if_false]
          exact e1
        simp only [RM.run, Option.isSome_some, cond_true] at h1
        exact endVp hS hA hN h1 (fun _ => by rw [hev]; exact hv) (by rw [hev]; exact rep_s (fp' := none') hsv.2) (fun _ hb => hb) (hrun ad (by rw [hev]; exact this))
    · rename_i T t m y hst
      simp only [self] at h1
      have hal := al_der hS hst
      obtain ⟨b, k, hb⟩ := al_ptr hal hst
      exact endOp hS hA hN rfl h1 (fq := none') (by rw [hev]; exact hal) (fun _ hb => hb) (hrun _ (by rw [hev]; exact hb))
    · rename_i r p hst
      rw [hst] at hsv
      simp only [memP, RM.run] at h1
      split at h1
      · rename_i t0 m0 x0 hr
        split at h1
        · obtain ⟨b, k, hb⟩ := al_ptr hsv hr
          exact endOp hS hA hN rfl h1 (fq := none') (by rw [hev]; exact hsv) (fun _ hb => hb) (hrun _ (by rw [hev]; exact hb))
        · simp [RM.run] at h1
      · simp [RM.run] at h1
    · rename_i r p hst
      rw [hst] at hsv
      simp only [atP, RM.run] at h1
      split at h1
      · rename_i t0 m0 x0 hr
        split at h1
        · rename_i u mu y hg
          split at h1
          · simp only [memP, RM.run, hr] at h1
            split at h1
            · rename_i hrb
              have hal := al_lz hS hsv hr hg hrb
              obtain ⟨b, k, hb⟩ := al_ptr hal hr
              exact endOp hS hA hN rfl h1 (fq := none') (by rw [hev]; exact hal) (fun _ hb => hb) (hrun _ (by rw [hev]; exact hb))
            · simp [RM.run] at h1
          · simp [RM.run] at h1
        · simp [RM.run] at h1
      · simp [RM.run] at h1
    · simp [RM.run] at h1
  · cases hc : cst env 0 c with
    | v t m y =>
      rw [hc] at h1
      unfold cst at hc
      (repeat' split at hc) <;> cases hc <;> simp [RM.run] at h1
    | al r p => unfold cst at hc; (repeat' split at hc) <;> cases hc
    | lz r p => unfold cst at hc; (repeat' split at hc) <;> cases hc
    | _ => rw [hc] at h1; simp [RM.run] at h1
  · simp [RM.run] at h1

theorem op_fieldAddr {S : TypeId} {x : Operand} {i : Nat} (hE : EnvTy P env) (ho : o.op = .fieldAddr S x i) (hS : SR e F w st V fp none') (hA : AR env gh a V) (hN : Nxt env gh e K res next) (h : (evOp env o).run C st K = some res) : wpp P o a w next := by
  have hrun : ∀ {t : Ty} {m : Md} {y : t.I} {u : Ty} {mu : Md} {z : u.I} {b k : Nat}, env.is S t = true → getP t m y [.fld i] = some ⟨u, mu, z⟩ → Nat.beq u.size 0 = false → a.eval x = .pointer (some ⟨b, k, none⟩) →
      ∃ k', fldT t i = some (u, k') ∧ k' + u.size ≤ t.size ∧ ∀ w, (execOp a.eval o).run P w = .ok (.value (.pointer (some ⟨b, k + k', none⟩))) w := by
    intro t m y u mu z b k hT hg hz hx
    obtain ⟨k', f1, f2⟩ := getP_fld hg
    obtain ⟨fs, f, g1, g2, g3, g4⟩ := wt_fld (Env.is_ok hE hT) f1
    refine ⟨k', f1, f2, ?_⟩
    have hne : u.size ≠ 0 := fun hc => by rw [hc] at hz; cases hz
    intro w
    simp only [execOp, ho, hx, Instr.fieldAt, Sem.run_bind, run_underlying g1, Result.andThen_ok, g2, Instr.sureAddr, Sem.run_pure, fieldPlace, run_sizeOf g4, hne, if_false, g3, addr_add]
  simp only [evOp, ho] at h
  rcases rdP_inv hS hA h with ⟨r, p, h1, ha⟩ | ⟨t, y, b, k, h1, e1, e2, e3, e4⟩
  · simp only [atP, RM.run] at h1
    split at h1
    · rename_i t0 m0 x0 hr
      split at h1
      · rename_i t m y hg
        split at h1
        · rename_i u mu z hT hf
          split at h1
          · rename_i hz
            obtain ⟨a1, a2, a3, u1, c1, b, k, a4, a5⟩ := ha t0 m0 x0 hr
            obtain ⟨b', k', fold, e1, e2, e3, e4, P', e5, e6⟩ := place_info hS ha hr hg
            obtain ⟨kk, f1, f2, hr2⟩ := hrun hT hf hz e1
            refine endOp (fq := none') hS hA hN rfl h1 ?_ (fun _ hb => hb) hr2
            intro t1 m1 x1 h2
            rw [hr] at h2
            cases h2
            have hrf := rs_fld (w := w) (c := rowW w b' k') (ad := some (b', k')) f1
            refine ⟨rootB_app a1, ownP_app hg e3 (flds_ownP (q := [.fld i]) rfl hrf), inP_app hg e4 (flds_inP (q := [.fld i]) rfl hrf), u, fun j => rowW w b' k' (kk + j), b', k' + kk, (rs_app e2).trans hrf, rfl⟩
          · simp [RM.run] at h1
        · simp [RM.run] at h1
      · simp [RM.run] at h1
    · simp [RM.run] at h1
  · split at h1
    · rename_i u z hT hf
      split at h1
      · rename_i hz
        obtain ⟨kk, f1, f2, hr2⟩ := hrun hT hf hz e1
        refine endVp (fq := none') hS hA hN h1 (fun _ => ?_) ?_ (fun _ hb => hb) hr2
        · simp only [isV, valOf, Ty.agg, Bool.false_eq_true, if_false]; rfl
        · simp only [rep]
          refine ⟨some ⟨b, k + kk, none⟩, rfl, ⟨b, k + kk, none⟩, rfl, rfl, e4, ?_, ?_⟩
          · obtain ⟨cs, el, fz, q1, q2, q3⟩ := e2
            exact ⟨cs, el, fz, q1, by show k + kk + u.size ≤ cs.size; omega, q3⟩
          · have hrf := rs_fld (w := w) (c := rowW w b k) (ad := none) f1
            obtain ⟨c', ad', fp', k1, k2, k3⟩ := rep_get (ad := none) e3 hf (flds_inP (q := [.fld i]) rfl hrf) nofun
            rw [hrf] at k1
            simp only [Option.some.injEq, Prod.mk.injEq, true_and] at k1
            obtain ⟨rfl, _⟩ := k1
            rw [rowW_add] at k2
            exact rep_s k2
      · simp [RM.run] at h1
    · simp [RM.run] at h1

end
end Go.Trm
