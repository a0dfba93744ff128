import Derived.Test.YthidebepdpkgkaaTrmDraw
set_option linter.unusedVariables false
set_option linter.unusedSimpArgs false
namespace Go.Trm

def toX : Ex → Exit
  | .normal => .normal
  | .exit i => .exit i
  | .ret => .ret

/-- all that comes behind, of code -/
def Good {R : Type} (env : Env) (e : Entry) (K : Ex → St → Option R) (res : R) (Q : Exit → Act → World → Prop) : Prop :=
  ∀ x F w st V fp a, SR e F w st V fp none' → AR env a V → K x st = some res → Q (toX x) a w

section
variable {P : Program} {env : Env} {e : Entry} {F : Blks} {w : World} {st : St} {V : Nat → Value} {fp : Nat → Blks} {fl : Blks} {a : Act} {R : Type} {res : R} {Q : Exit → Act → World → Prop}

theorem ops_sound (hE : EnvTy P env) (hF : EnvFn P env) {ops : Array Oper} {K : St → Option R} (hQ : ∀ F w st V fp a, SR e F w st V fp none' → AR env a V → K st = some res → Q .normal a w) :
    ∀ (os : List Oper) (i : Nat) (F : Blks) (w : World) (st : St) (V : Nat → Value) (fp : Nat → Blks) (a : Act), ops.toList.drop i = os → SR e F w st V fp none' → AR env a V → evOps env ops.toList os st K = some res → wpOps P ops Q (List.range' i os.length) a w := by
  intro os
  induction os with
  | nil =>
    intro i F w st V fp a hd hS hA h
    exact hQ _ _ _ _ _ _ hS hA h
  | cons o os ih =>
    intro i F w st V fp a hd hS hA h
    have hi : ops[i]? = some o := by
      rw [← Array.getElem?_toList]
      have := congrArg (fun l => l[0]?) hd
      simpa [List.getElem?_drop] using this
    have hd' : ops.toList.drop (i + 1) = os := by
      have := congrArg List.tail hd
      simpa [List.tail_drop] using this
    simp only [List.length_cons, List.range'_succ, wpOps, hi]
    simp only [evOps] at h
    rcases evG_inv hS hA h with ⟨hw, h⟩ | ⟨hw, h⟩
    · rw [if_pos hw]
      exact .inl (evOp_sound hE hF hS hA (fun F' w' st' V' fp' a' hS' hA' h' => ih (i + 1) F' w' st' V' fp' a' hd' hS' hA' h') h)
    · rw [hw]
      obtain ⟨V', fp', h1, h2⟩ := skip_ok (dst := o.dst) h.2 hS hA
      exact ih (i + 1) _ _ _ _ _ _ hd' h1 h2 h.1

theorem SR.only (hS : SR e F w st V fp none') (l : List Nat) : ∃ fp', SR e F w (st.only l) V fp' none' := by
  have hon : ∀ i, st.only l i = st i ∨ st.only l i = .un := by
    intro i
    unfold St.only
    induction l with
    | nil => right; rfl
    | cons s l ih =>
      simp only [List.map_cons, St.ofList]
      cases hb : Nat.beq i s with
      | true => left; rw [Nat.eq_of_beq_eq_true hb]
      | false => exact ih
  have hst : ∀ r, ∀ {t1 m1 x1}, st.only l r = .v t1 m1 x1 → st r = .v t1 m1 x1 := by
    intro r t1 m1 x1 h
    rcases hon r with h1 | h1
    · rw [← h1]; exact h
    · rw [h1] at h; cases h
  have hal : ∀ r q v, AlOk w st V r q v → AlOk w (st.only l) V r q v := fun r q v ha t1 m1 x1 h1 => ha t1 m1 x1 (hst r h1)
  refine ⟨fp, fun i => ?_, hS.disj, hS.notF, hS.inH, hS.inF, hS.flD, hS.flF, hS.flH, hS.g1, hS.g2, hS.g3, hS.g4, hS.g5, hS.g6, hS.g7⟩
  rcases hon i with h1 | h1
  · rw [h1]
    have h2 := hS.sv i
    cases hsi : st i with
    | v t1 m1 x1 => rw [hsi] at h2; exact h2
    | al r q => rw [hsi] at h2; exact hal _ _ _ h2
    | lz r q => rw [hsi] at h2; exact fun t1 m1 x1 h3 => h2 t1 m1 x1 (hst r h3)
    | fn f caps =>
      rw [hsi] at h2
      obtain ⟨vs, e1, e2, e3⟩ := h2
      exact ⟨vs, e1, e2, fun k q hq => by obtain ⟨u1, e4, e5⟩ := e3 k q hq; exact ⟨u1, e4, hal _ _ _ e5⟩⟩
    | tup l => rw [hsi] at h2; exact h2
    | nil => rw [hsi] at h2; exact h2
    | un => trivial
  · rw [h1]; trivial

theorem SR.at (hS : SR e F w st V fp none') (o : Option (List Nat)) : ∃ fp', SR e F w (st.at o) V fp' none' := by
  cases o with
  | none => exact ⟨fp, hS⟩
  | some l => exact hS.only l

/-- ALL CODE -/
theorem evC_sound (hm : P.follows .mixedOrders = true) (hE : EnvTy P env) (hF : EnvFn P env) {lp : Loops} : ∀ {c : Code} {R : Type} {K : Ex → St → Option R} {res : R} {Q : Exit → Act → World → Prop} {F : Blks} {w : World} {st : St} {V : Nat → Value} {fp : Nat → Blks} {a : Act},
    LoopsOk env lp c → Good env e K res Q → SR e F w st V fp none' → AR env a V → evC env lp c st K = some res → c.wp P Q a w := by
  intro c
  induction c with
  | skip => intro R K res Q F w st V fp a hL hG hS hA h; exact wp_skip (hG _ _ _ _ _ _ _ hS hA h)
  | region id ops draw =>
    intro R K res Q F w st V fp a hL hG hS hA h
    obtain ⟨fp, hS⟩ := hS.at (env.lv id)
    cases draw with
    | true =>
      simp only [evC] at h
      split at h
      · rename_i hsel
        have := draw_sound hE hF (ro := ops.toList.all fun o => isPure o.op || isLoad o.op) hsel (K := fun st => K .normal st) (Q := fun x a w => x = .normal ∧ Q .normal a w) (fun c a w hc => by cases hc.1) ops.size (Array.replicate ops.size false) _ _ _ _ _ _ _
          (fun F w st V fp a hS hA h => ⟨rfl, hG .normal _ _ _ _ _ _ hS hA h⟩) (hS.world (w' := { w with drawn := w.drawn + 1 }) (fun _ _ _ => rfl) ⟨⟨rfl, rfl, rfl⟩, Nat.le_refl _⟩ (fun b hb => hb.elim)) hA h
        exact wp_mono (wp_region_any hm (wpC_any this)) (fun x a w hx => by rw [hx.1]; exact hx.2)
      · cases h
    | false =>
      refine wp_region ?_
      have := ops_sound hE hF (Q := Q) (fun F w st V fp a hS hA h => hG .normal _ _ _ _ _ _ hS hA h) ops.toList 0 _ _ _ _ _ _ (by simp) hS hA h
      rwa [List.range_eq_range', ← Array.length_toList]
  | seq x y ihx ihy =>
    intro R K res Q F w st V fp a hL hG hS hA h
    refine wp_seq (ihx hL.1 (fun ex F w st V fp a hS hA h => ?_) hS hA h)
    cases ex with
    | normal => exact ihy hL.2 hG hS hA h
    | exit i => exact hG _ _ _ _ _ _ _ hS hA h
    | ret => exact hG _ _ _ _ _ _ _ hS hA h
  | cond c x y ihx ihy =>
    intro R K res Q F w st V fp a hL hG hS hA h
    simp only [evC] at h
    split at h
    · rename_i s
      split at h
      · cases h
      · rename_i hn
        split at h
        · rename_i b hst
          have hsv := hS.sv s
          rw [hst] at hsv
          have hv : a.eval (.tmp s) = .bool b := (hA.tmps s (blt_lt hn)).trans (rep_bool (m := .s) (hsv.1 nofun) nofun hsv.2)
          refine wp_cond hv ?_
          cases b with
          | true => exact ihx hL.1 hG (by rw [put_eq hst]; exact hS) hA h
          | false => exact ihy hL.2 hG (by rw [put_eq hst]; exact hS) hA h
        · cases h
    · cases h
  | block id c ih =>
    intro R K res Q F w st V fp a hL hG hS hA h
    refine wp_block (ih hL (fun ex F w st V fp a hS hA h => ?_) hS hA h)
    cases ex with
    | normal => exact hG _ _ _ _ _ _ _ hS hA h
    | exit i =>
      simp only [toX, Exit.inBlock]
      simp only at h
      split at h
      · rename_i hb
        rw [if_pos (Nat.eq_of_beq_eq_true hb)]
        exact hG .normal _ _ _ _ _ _ hS hA h
      · rename_i hb
        rw [if_neg (fun hc => by subst hc; rw [Nat.beq_refl] at hb; cases hb)]
        exact hG (.exit i) _ _ _ _ _ _ hS hA h
    | ret => exact hG _ _ _ _ _ _ _ hS hA h
  | loop c ih =>
    intro R K res Q F w st V fp a hL hG hS hA h
    simp only [evC] at h
    split at h
    · rename_i i hi
      obtain ⟨hd, out, n, hr⟩ := hL.1 i hi R st K res h
      refine wp_loop_rounds n ?_
      unfold lrounds at hr
      clear h
      induction n generalizing F w st V fp a with
      | zero => cases hr
      | succ n ihn =>
        simp only [rounds] at hr
        rw [rounds_succ]
        obtain ⟨fp1, hS1⟩ := hS.only hd
        refine ih hL.2 (fun ex F w st V fp a hS hA h => ?_) hS1 hA hr
        cases ex with
        | normal => exact ihn hS hA h
        | exit i =>
          obtain ⟨fp2, hS2⟩ := hS.only (out (.exit i))
          exact hG _ _ _ _ _ _ _ hS2 hA h
        | ret =>
          obtain ⟨fp2, hS2⟩ := hS.only (out .ret)
          exact hG _ _ _ _ _ _ _ hS2 hA h
    · cases h
  | exit id => intro R K res Q F w st V fp a hL hG hS hA h; exact wp_exit (hG (.exit id) _ _ _ _ _ _ hS hA h)
  | ret => intro R K res Q F w st V fp a hL hG hS hA h; exact wp_ret (hG .ret _ _ _ _ _ _ hS hA h)
  | scope c ih =>
    intro R K res Q F w st V fp a hL hG hS hA h
    refine wp_scope_straight (ih hL (fun ex F w st V fp a hS hA h => ?_) hS hA h)
    cases ex <;> exact hG _ _ _ _ _ _ _ hS hA h
  | _ => intro R K res Q F w st V fp a hL hG hS hA h; cases h

end
end Go.Trm
