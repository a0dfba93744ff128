import Derived.Test.YtiooemenojlbjaaGreatTrmDraw
set_option linter.unusedVariables false
set_option linter.unusedSimpArgs false
namespace Go.Trm

def toX : Ex → Exit
  | .normal => .normal
  | .exit i => .exit i
  | .ret => .ret
  | .pan _ => .normal

def Ex.isPan : Ex → Bool
  | .pan _ => true
  | _ => false

/-- all that comes behind, of code -/
structure Good {R : Type} (env : Env) (gh : Nat → Value) (e : Entry) (K : Ex → St → Option R) (res : R) (Q : Exit → Act → World → Prop) : Prop where
  ex : ∀ x F w st V fp a, x.isPan = false → SR e F w st V fp none' → AR env gh a V → K x st = some res → Q (toX x) a w
  pan : ∀ p ch F w st V fp a, SR e F w st V fp none' → AR env gh a V → PanR F w p ch → K (.pan p) st = some res → Q (.panic ch) a w

/-- slots that a panic doesn't look at -/
def PanFree (env : Env) (Q : Exit → Act → World → Prop) : Prop := ∀ c a w d v, d ∉ env.rs → Q (.panic c) (a.put (some d) v) w → Q (.panic c) a w

section
variable {P : Program} {env : Env} {e : Entry} {F : Blks} {w : World} {st : St} {V : Nat → Value} {fp : Nat → Blks} {fl : Blks} {a : Act} {R : Type} {res : R} {C : Cx R} {gh : Nat → Value} {Q : Exit → Act → World → Prop}

theorem ops_sound (hE : EnvTy P env) (hF : EnvFn P env) (hC : CxOk P env gh e C res Q) {ops : Array Oper} {K : St → Option R} (hQ : ∀ F w st V fp a, SR e F w st V fp none' → AR env gh a V → K st = some res → Q .normal a w) :
    ∀ (os : List Oper) (i : Nat) (F : Blks) (w : World) (st : St) (V : Nat → Value) (fp : Nat → Blks) (a : Act), ops.toList.drop i = os → SR e F w st V fp none' → AR env gh a V → evOps env C ops.toList os st K = some res → wpOps P ops Q (List.range' i os.length) a w := by
  intro os
  induction os with
  | nil =>
    intro i F w st V fp a hd hS hA h
    exact hQ _ _ _ _ _ _ hS hA h
  | cons o os ih =>
    intro i F w st V fp a hd hS hA h
    have hi : ops[i]? = some o := by
      rw [← Array.getElem?_toList]
      have := congrArg (fun l => l[0]?) hd
      simpa [List.getElem?_drop] using this
    have hd' : ops.toList.drop (i + 1) = os := by
      have := congrArg List.tail hd
      simpa [List.tail_drop] using this
    simp only [List.length_cons, List.range'_succ, wpOps, hi]
    simp only [evOps] at h
    rcases evG_inv hS hA h with ⟨hw, h⟩ | ⟨hw, h⟩
    · rw [if_pos hw]
      exact .inl (evOp_sound hE hF hC hS hA (fun F' w' st' V' fp' a' hS' hA' h' => ih (i + 1) F' w' st' V' fp' a' hd' hS' hA' h') h)
    · rw [hw]
      obtain ⟨V', fp', h1, h2⟩ := skip_ok (dst := o.dst) h.2 hS hA
      exact ih (i + 1) _ _ _ _ _ _ hd' h1 h2 h.1

theorem SR.only (hS : SR e F w st V fp none') (l : List Nat) : ∃ fp', SR e F w (st.only l) V fp' none' := by
  have hon : ∀ i, st.only l i = st i ∨ st.only l i = .un := by
    intro i
    unfold St.only
    induction l with
    | nil => right; rfl
    | cons s l ih =>
      simp only [List.map_cons, St.ofList]
      cases hb : Nat.beq i s with
      | true => left; rw [Nat.eq_of_beq_eq_true hb]
      | false => exact ih
  have hst : ∀ r, ∀ {t1 m1 x1}, st.only l r = .v t1 m1 x1 → st r = .v t1 m1 x1 := by
    intro r t1 m1 x1 h
    rcases hon r with h1 | h1
    · rw [← h1]; exact h
    · rw [h1] at h; cases h
  have hal : ∀ r q v, AlOk w st V r q v → AlOk w (st.only l) V r q v := fun r q v ha t1 m1 x1 h1 => ha t1 m1 x1 (hst r h1)
  refine ⟨fp, fun i => ?_, hS.disj, hS.notF, hS.inH, hS.inF, hS.flD, hS.flF, hS.flH, hS.g1, hS.g2, hS.g3, hS.g4, hS.g5, hS.g6⟩
  rcases hon i with h1 | h1
  · rw [h1]
    have h2 := hS.sv i
    cases hsi : st i with
    | v t1 m1 x1 => rw [hsi] at h2; exact h2
    | al r q => rw [hsi] at h2; exact hal _ _ _ h2
    | lz r q => rw [hsi] at h2; exact fun t1 m1 x1 h3 => h2 t1 m1 x1 (hst r h3)
    | sub r q lo hi => rw [hsi] at h2; exact fun t1 m1 x1 h3 => h2 t1 m1 x1 (hst r h3)
    | fn f s caps =>
      rw [hsi] at h2
      obtain ⟨us, vs, e1, e2, e3⟩ := h2
      exact ⟨us, vs, e1, e2.imp (fun _ _ hb => hb) fun q u _ => hal _ _ _, e3.imp (fun _ _ hb => hb) fun q u _ => hal _ _ _⟩
    | bx r q =>
      rw [hsi] at h2
      exact h2
    | ifc T t1 x1 => rw [hsi] at h2; exact h2
    | tup l => rw [hsi] at h2; exact h2
    | nil => rw [hsi] at h2; exact h2
    | un => trivial
  · rw [h1]; trivial

theorem SR.at (hS : SR e F w st V fp none') (o : Option (List Nat)) : ∃ fp', SR e F w (st.at o) V fp' none' := by
  cases o with
  | none => exact ⟨fp, hS⟩
  | some l => exact hS.only l

theorem frzAll_inv {Kk : Unit → St → Option R} : ∀ {l : List (Nat × Bool)} {F : Blks} {st : St} {fp : Nat → Blks}, SR e F w st V fp none' → (frzAll l).run C st Kk = some res → ∃ F' st' fp', Kk () st' = some res ∧ SR e F' w st' V fp' none'
  | [], F, st, fp, hS, h => ⟨F, st, fp, h, hS⟩
  | (s, z) :: l, F, st, fp, hS, h => by
    unfold frzAll at h
    cases z with
    | false => exact frzAll_inv hS h
    | true =>
      simp only [RM.run] at h
      have hgen : ∀ t m y, st s = .v t m y → m ≠ .j → (freeze (some (s, [])) (frzAll l)).run C st Kk = some res → ∃ F' st' fp', Kk () st' = some res ∧ SR e F' w st' V fp' none' := by
        intro t m y hst hm h
        have hsv := hS.sv s
        rw [hst] at hsv
        have hd : DataAt F w st V (V s) t m y (some (s, [])) :=
          ⟨hm, _, _, _, hst, y, by simp only [getP], by simp [ownP], by simp [inP], cv (V s), none, by simp [rs], by
            have h1 : V s = valOf t (cv (V s)) := hsv.1 hm
            have h2 := PartOf.all (c' := cv (V s)) t y
            rwa [← h1] at h2⟩
        obtain ⟨st1, fp1, F1, h2, hS1, _, _, _⟩ := freeze_inv hS hd nofun h
        exact frzAll_inv hS1 h2
      split at h
      · exact frzAll_inv hS h
      · simp [RM.run] at h
      · rename_i t m y hm1 hm2 hst
        exact hgen _ _ _ hst (fun hc => by subst hc; exact hm2 rfl) h
      · exact frzAll_inv hS h

theorem coerce_inv {l : List (Nat × Bool)} {K : St → Option R} (hS : SR e F w st V fp none') (h : coerce l st K = some res) : ∃ F' st' fp', K st' = some res ∧ SR e F' w st' V fp' none' := by
  unfold coerce at h
  obtain ⟨F', st', fp', h1, h2⟩ := frzAll_inv hS h
  obtain ⟨fp2, h3⟩ := h2.only (l.map Prod.fst)
  exact ⟨F', _, fp2, h1, h3⟩

/-- ALL CODE -/
theorem evC_sound (hm : P.follows .mixedOrders = true) (hE : EnvTy P env) (hF : EnvFn P env) {inl : Inl} (hI : InlOk P env.top inl) {lp : Loops} : ∀ {c : Code} {R : Type} {K : Ex → St → Option R} {res : R} {Q : Exit → Act → World → Prop} {F : Blks} {w : World} {st : St} {V : Nat → Value} {fp : Nat → Blks} {a : Act},
    LoopsOk env lp inl c → PanFree env Q → Good env gh e K res Q → SR e F w st V fp none' → AR env gh a V → evC env lp inl c st K = some res → c.wp P Q a w := by
  have hcx : ∀ {R : Type} {K : Ex → St → Option R} {res : R} {Q : Exit → Act → World → Prop}, Good env gh e K res Q → CxOk P env gh e (cx inl K) res Q := fun hG => ⟨hG.pan, inl, hI, fun _ _ _ _ _ => rfl⟩
  intro c
  induction c with
  | skip => intro R K res Q F w st V fp a hL hP hG hS hA h; exact wp_skip (hG.ex .normal _ _ _ _ _ _ rfl hS hA h)
  | region id ops draw =>
    intro R K res Q F w st V fp a hL hP hG hS hA h
    obtain ⟨fp, hS⟩ := hS.at (env.lv id)
    cases draw with
    | true =>
      simp only [evC] at h
      split at h
      · rename_i hsel
        simp only [Bool.and_eq_true] at hsel
        have hQp : ∀ (i : Nat) o c a w v, ops[i]? = some o → Q (.panic c) (a.put o.dst v) w → Q (.panic c) a w := by
          intro i o c a w v ho hq
          cases hd : o.dst with
          | none => rw [hd] at hq; exact hq
          | some d =>
            rw [hd] at hq
            refine hP c a w d v (fun hc => ?_) hq
            have h1 := List.all_eq_true.1 hsel.2 o (by rw [← Array.getElem?_toList] at ho; exact List.mem_of_getElem? ho)
            rw [hd] at h1
            have h2 := List.all_eq_true.1 h1 d hc
            rw [Nat.beq_refl] at h2
            cases h2
        have := draw_sound hE hF (ro := ops.toList.all fun o => isPure o.op || isLoad o.op) hsel.1 (K := fun st => K .normal st) (Q := Q) hQp ops.size (Array.replicate ops.size false) _ _ _ _ _ _ _ (hcx hG)
          (fun F w st V fp a hS hA h => hG.ex .normal _ _ _ _ _ _ rfl hS hA h) (hS.world (w' := { w with drawn := w.drawn + 1 }) (fun _ _ _ => rfl) ⟨⟨rfl, rfl, rfl⟩, Nat.le_refl _⟩ (fun b hb => hb.elim)) hA h
        exact wp_region_any hm (wpC_any this)
      · cases h
    | false =>
      refine wp_region ?_
      have := ops_sound hE hF (hcx hG) (Q := Q) (fun F w st V fp a hS hA h => hG.ex .normal _ _ _ _ _ _ rfl hS hA h) ops.toList 0 _ _ _ _ _ _ (by simp) hS hA h
      rwa [List.range_eq_range', ← Array.length_toList]
  | seq x y ihx ihy =>
    intro R K res Q F w st V fp a hL hP hG hS hA h
    obtain ⟨hL1, hL2, hL3⟩ := hL
    have key : ∀ (out : Ex → List (Nat × Bool)) (tr : Bool) {F : Blks} {st : St} {fp : Nat → Blks}, SR e F w st V fp none' →
        evC env lp inl x st (fun e st => cond tr (coerce (out e) st (fun st => match e with | .normal => evC env lp inl y st K | e => K e st)) (match e with | .normal => evC env lp inl y st K | e => K e st)) = some res → (Code.seq x y).wp P Q a w := by
      intro out tr F st fp hS h
      have hin : ∀ {ex : Ex} {F : Blks} {w : World} {st : St} {V : Nat → Value} {fp : Nat → Blks}, SR e F w st V fp none' → cond tr (coerce (out ex) st (fun st => match ex with | .normal => evC env lp inl y st K | e => K e st)) (match ex with | .normal => evC env lp inl y st K | e => K e st) = some res →
          ∃ F' st' fp', SR e F' w st' V fp' none' ∧ (match ex with | .normal => evC env lp inl y st' K | e => K e st') = some res := by
        intro ex F w st V fp hS h
        cases tr with
        | true => simp only [cond_true] at h; obtain ⟨F', st', fp', h1, h2⟩ := coerce_inv hS h; exact ⟨F', st', fp', h2, h1⟩
        | false => exact ⟨F, st, fp, hS, h⟩
      refine wp_seq (ihx hL1 hP (Q := Exit.then (y.wp P Q) Q) ⟨fun ex F w st V fp a hx hS hA h => ?_, fun p ch F w st V fp a hS hA hp h => ?_⟩ hS hA h)
      · obtain ⟨F', st', fp', hS', h'⟩ := hin hS h
        cases ex with
        | normal => exact ihy hL2 hP hG hS' hA h'
        | exit i => exact hG.ex (.exit i) _ _ _ _ _ _ rfl hS' hA h'
        | ret => exact hG.ex .ret _ _ _ _ _ _ rfl hS' hA h'
        | pan p => cases hx
      · obtain ⟨F', st', fp', hS', h'⟩ := hin hS h
        obtain ⟨v, q1, u, q2, q3, q4, q5⟩ := hp
        exact hG.pan p ch _ _ _ _ _ _ hS' hA ⟨v, q1, u, q2, q3, q4, rep_any' q3 q5⟩ h'
    simp only [evC] at h
    split at h
    · exact key (fun _ => []) false hS h
    · rename_i i hi
      obtain ⟨hd, out, h1⟩ := hL3 i hi R st _ res h
      obtain ⟨F', st', fp', h2, h3⟩ := coerce_inv hS h1
      exact key out true h3 h2
  | cond c x y ihx ihy =>
    intro R K res Q F w st V fp a hL hP hG hS hA h
    simp only [evC] at h
    split at h
    · rename_i s
      split at h
      · cases h
      · rename_i hn
        split at h
        · rename_i b hst
          have hsv := hS.sv (env.b + s)
          rw [hst] at hsv
          have hv : a.eval (.tmp s) = .bool b := (hA.tmps s (blt_lt hn)).trans (rep_bool (m := .s) (hsv.1 nofun) nofun hsv.2)
          refine wp_cond hv ?_
          cases b with
          | true => exact ihx hL.1 hP hG (by rw [put_eq hst]; exact hS) hA h
          | false => exact ihy hL.2 hP hG (by rw [put_eq hst]; exact hS) hA h
        · cases h
    · cases h
  | block id c ih =>
    intro R K res Q F w st V fp a hL hP hG hS hA h
    simp only [evC] at h
    refine wp_block (ih (K := fun e st => match e with
      | .exit j => match Nat.beq j id with
        | true => K .normal st
        | false => K (.exit j) st
      | e => K e st) hL (Q := Exit.inBlock id Q) hP ⟨fun ex F w st V fp a hx hS hA h => ?_, fun p ch F w st V fp a hS hA hp h => hG.pan p ch _ _ _ _ _ _ hS hA hp h⟩ hS hA h)
    cases ex with
    | normal => exact hG.ex .normal _ _ _ _ _ _ rfl hS hA h
    | exit i =>
      simp only [toX, Exit.inBlock]
      dsimp only at h
      split at h
      · rename_i hb
        rw [if_pos (Nat.eq_of_beq_eq_true hb)]
        exact hG.ex .normal _ _ _ _ _ _ rfl hS hA h
      · rename_i hb
        rw [if_neg (fun hc => by subst hc; rw [Nat.beq_refl] at hb; cases hb)]
        exact hG.ex (.exit i) _ _ _ _ _ _ rfl hS hA h
    | ret => exact hG.ex .ret _ _ _ _ _ _ rfl hS hA h
    | pan p => cases hx
  | loop c ih =>
    intro R K res Q F w st V fp a hL hP hG hS hA h
    simp only [evC] at h
    split at h
    · rename_i i hi
      obtain ⟨hd, out, n, hr⟩ := hL.1 i hi R st K res h
      refine wp_loop_rounds n ?_
      clear h
      obtain ⟨F0, st0, fp0, hr0, hS0⟩ := coerce_inv hS hr
      clear hr hS
      revert hr0 hS0
      induction n generalizing F0 w st0 V fp0 a with
      | zero => intro hr; cases hr
      | succ n ihn =>
        intro hr hS
        simp only [lrounds] at hr
        rw [rounds_succ]
        refine ih hL.2 ?_ ⟨fun ex F w st V fp a hx hS hA h => ?_, fun p ch F w st V fp a hS hA hp h => ?_⟩ hS hA hr
        · exact hP
        · cases ex with
          | normal =>
            obtain ⟨F', st', fp', h1, h2⟩ := coerce_inv hS h
            exact ihn hA _ _ _ h1 h2
          | exit i =>
            obtain ⟨F', st', fp', h1, h2⟩ := coerce_inv hS h
            exact hG.ex (.exit i) _ _ _ _ _ _ rfl h2 hA h1
          | ret =>
            obtain ⟨F', st', fp', h1, h2⟩ := coerce_inv hS h
            exact hG.ex .ret _ _ _ _ _ _ rfl h2 hA h1
          | pan p => cases hx
        · obtain ⟨F', st', fp', h1, h2⟩ := coerce_inv hS h
          obtain ⟨v, q1, u, q2, q3, q4, q5⟩ := hp
          exact hG.pan p ch _ _ _ _ _ _ h2 hA ⟨v, q1, u, q2, q3, q4, rep_any' q3 q5⟩ h1
    · cases h
  | exit id => intro R K res Q F w st V fp a hL hP hG hS hA h; exact wp_exit (hG.ex (.exit id) _ _ _ _ _ _ rfl hS hA h)
  | ret => intro R K res Q F w st V fp a hL hP hG hS hA h; exact wp_ret (hG.ex .ret _ _ _ _ _ _ rfl hS hA h)
  | scope c ih =>
    intro R K res Q F w st V fp a hL hP hG hS hA h
    refine wp_scope_straight (ih hL ?_ ⟨fun ex F w st V fp a hx hS hA h => ?_, fun p ch F w st V fp a hS hA hp h => ?_⟩ hS hA h)
    · exact hP
    · cases ex <;> first | (cases hx; done) | exact hG.ex _ _ _ _ _ _ _ rfl hS hA h
    · exact hG.pan p ch _ _ _ _ _ _ hS hA hp h
  | _ => intro R K res Q F w st V fp a hL hP hG hS hA h; cases h

end
end Go.Trm
