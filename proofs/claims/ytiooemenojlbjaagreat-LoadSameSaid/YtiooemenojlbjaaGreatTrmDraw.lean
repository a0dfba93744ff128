import Derived.Test.YtiooemenojlbjaaGreatTrmGuard
import Derived.Orders
set_option linter.unusedVariables false
set_option linter.unusedSimpArgs false
namespace Go.Trm

section
variable {P : Program} {ops : Array Oper} {Q : Exit → Act → World → Prop} {md : Region.Mode} {C : World → Prop}

/-- whatever order is drawn; in worlds of a class -/
def wpC (P : Program) (md : Region.Mode) (ops : Array Oper) (Q : Exit → Act → World → Prop) (C : World → Prop) : Nat → Array Bool → Act → World → Prop
  | 0, listed, a, w => C w ∧ Region.ready md ops listed = [] ∧ Q .normal a w
  | fuel + 1, listed, a, w => C w ∧ (Region.ready md ops listed = [] → Q .normal a w) ∧
    ∀ i ∈ Region.ready md ops listed, wpOp P ops Q i (wpC P md ops Q C fuel (listed.setIfInBounds i true)) a w

theorem wpC_any : ∀ {fuel : Nat} {listed : Array Bool} {a : Act} {w : World}, wpC P md ops Q C fuel listed a w → wpAny P md ops Q fuel listed a w
  | 0, _, _, _, h => h.2
  | _ + 1, _, _, _, h => ⟨h.2.1, fun i hi => wpOp_mono (fun _ _ h => wpC_any h) (h.2.2 i hi)⟩

theorem wpC_C : ∀ {fuel : Nat} {listed : Array Bool} {a : Act} {w : World}, wpC P md ops Q C fuel listed a w → C w
  | 0, _, _, _, h => h.1
  | _ + 1, _, _, _, h => h.1

/-- in all worlds of the class it yields this, and leaves the world -/
def YC (P : Program) (ops : Array Oper) (C : World → Prop) (o : Oper) (v : Value) (a : Act) : Prop :=
  (Region.wanted o (yielded ops a.tmps) = true ∧ ∀ w, C w → (execOp a.eval o).run P w = .ok (.value v) w) ∨
  (Region.wanted o (yielded ops a.tmps) = false ∧ v = undef)

theorem YC.wpOp {i : Nat} {o : Oper} {v : Value} {a : Act} (hi : ops[i]? = some o) (hy : YC P ops C o v a) {K : Act → World → Prop} {w : World} (hw : C w) (h : K (a.put o.dst v) w) : wpOp P ops Q i K a w := by
  unfold Go.wpOp
  simp only [hi]
  rcases hy with ⟨hw', hv⟩ | ⟨hw', rfl⟩
  · simp only [hw', if_true, Oper.wp, hv w hw, Oper.upon]; exact .inl h
  · simp only [hw', Bool.false_eq_true, if_false]; exact h

theorem YC.of_same {o : Oper} {v : Value} {a a' : Act} (hy : YC P ops C o v a) (he : execOp a'.eval o = execOp a.eval o) (hw : Region.wanted o (yielded ops a'.tmps) = Region.wanted o (yielded ops a.tmps)) : YC P ops C o v a' := by
  unfold YC at *
  rw [he, hw]
  exact hy

theorem wpOp_putC {j : Nat} {oi oj : Oper} {v : Value} (hj : ops[j]? = some oj) (hap : oi.apart ops oj = true)
    (hsi : ∀ cs b, oi.op ≠ .select cs b) (hsj : ∀ cs b, oj.op ≠ .select cs b)
    (hQ : ∀ c a w, Q (.panic c) (a.put oi.dst v) w → Q (.panic c) a w) {K : Act → World → Prop} {a : Act} {w : World}
    (hy : YC P ops C oi v a) (h : wpOp P ops Q j K (a.put oi.dst v) w) :
    wpOp P ops Q j (fun a' w' => YC P ops C oi v a' ∧ K (a'.put oi.dst v) w') a w := by
  obtain ⟨h1, h2, h3⟩ := Oper.apart_spec hap
  have keep : ∀ (a : Act), YC P ops C oi v a → ∀ u, YC P ops C oi v (a.put oj.dst u) := fun a hy u =>
    hy.of_same (execOp_put oi hsi a oj.dst u h3) (wanted_put oi a oj.dst u h3)
  have keepD : ∀ d, YC P ops C oi v { a with defers := d :: a.defers } := fun d => hy.of_same rfl rfl
  unfold wpOp at *
  simp only [hj] at *
  rw [wanted_put oj a oi.dst v h1] at h
  split
  · rename_i hw
    simp only [hw, if_true] at h
    rcases h with h | ⟨hasks, hlets⟩
    case inr => exact .inr ⟨by unfold Oper.asks at *; rw [execOp_put oj hsj a oi.dst v h1] at hasks; exact hasks, hlets⟩
    refine .inl ?_
    unfold Oper.wp at *
    rw [execOp_put oj hsj a oi.dst v h1] at h
    generalize (execOp a.eval oj).run P w = r at *
    cases r with
    | ok n w' =>
      cases n <;> simp only [Oper.upon] at h ⊢
      case value u => exact ⟨keep a hy u, by rw [← Act.put_comm a v u h2]; exact h⟩
      case skip => exact ⟨keep a hy _, by rw [← Act.put_comm a v undef h2]; exact h⟩
      case defer d =>
        refine ⟨keep _ (keepD d) _, ?_⟩
        rw [← Act.put_comm _ v undef h2, ← Act.put_defers]
        exact h
      case enter f args =>
        refine Calls.mono h fun e w'' he => ?_
        cases e with
        | returned u => exact ⟨keep a hy u, by rw [← Act.put_comm a v u h2]; exact he⟩
        | panicked c => exact hQ _ _ _ he
        | outgrown => exact he
      case row row args => exact Rows.mono h fun u w'' he => ⟨keep a hy u, by rw [← Act.put_comm a v u h2]; exact he⟩
    | halt x w' =>
      cases x <;> simp only [Oper.upon] at h ⊢
      case panic u => exact hQ _ _ _ h
  · rename_i hw
    simp only [hw] at h
    exact ⟨keep a hy _, by rw [← Act.put_comm a v undef h2]; exact h⟩

/-- an operation that is free, and yields the same in all worlds of the class, may be taken first -/
theorem wpC_first {i : Nat} {oi : Oper} {v : Value} (hi : ops[i]? = some oi) (hsel : ∀ (j : Nat) (o : Oper) cs b, ops[j]? = some o → o.op ≠ .select cs b)
    (hQ : ∀ c a w, Q (.panic c) (a.put oi.dst v) w → Q (.panic c) a w) :
    ∀ (fuel : Nat) (listed : Array Bool) (a : Act) (w : World),
      (∀ j oj, ops[j]? = some oj → j ≠ i → listed.getD j true = false → (∀ e ∈ oj.after, Region.binds md e = true → e.on ≠ i) → oi.apart ops oj = true) →
      i ∈ Region.ready md ops listed → YC P ops C oi v a →
      wpC P md ops Q C fuel (listed.setIfInBounds i true) (a.put oi.dst v) w → wpC P md ops Q C (fuel + 1) listed a w := by
  intro fuel
  induction fuel with
  | zero =>
    intro listed a w _ hr hy H
    refine ⟨H.1, fun h => (by rw [h] at hr; cases hr), fun j hj => ?_⟩
    by_cases hji : j = i
    · subst hji; exact hy.wpOp hi H.1 H
    · have := ready_mono hj hji
      rw [H.2.1] at this
      cases this
  | succ fuel ih =>
    intro listed a w hfree hr hy H
    refine ⟨H.1, fun h => (by rw [h] at hr; cases hr), fun j hj => ?_⟩
    by_cases hji : j = i
    · subst hji; exact hy.wpOp hi H.1 H
    · have h1 := H.2.2 j (ready_mono hj hji)
      obtain ⟨hjun, oj, hoj, hall⟩ := mem_ready.1 hj
      have hnot : ∀ e ∈ oj.after, Region.binds md e = true → e.on ≠ i := fun e he hb heq => by
        have h1 := hall e he hb
        have h0 := (mem_ready.1 hr).1
        rw [heq] at h1
        rcases Nat.lt_or_ge i listed.size with h' | h'
        · simp [h'] at h0 h1; rw [h0] at h1; cases h1
        · simp [Array.getElem?_eq_none h'] at h1
      have h2 := wpOp_putC hoj (hfree j oj hoj hji hjun hnot) (fun cs b => hsel i oi cs b hi) (fun cs b => hsel j oj cs b hoj) hQ hy h1
      have hfree' : ∀ k ok, ops[k]? = some ok → k ≠ i → (listed.setIfInBounds j true).getD k true = false →
          (∀ e ∈ ok.after, Region.binds md e = true → e.on ≠ i) → oi.apart ops ok = true := fun k ok hk hki hun hno => by
        refine hfree k ok hk hki ?_ hno
        by_cases hjk : j = k
        · subst hjk; exact hjun
        · rw [getD_set_ne true hjk] at hun; exact hun
      refine wpOp_mono (fun a' w' h3 => ih (listed.setIfInBounds j true) a' w' hfree' (ready_mono hr (Ne.symm hji)) h3.1 ?_) h2
      rw [Array.setIfInBounds_comm _ _ hji]
      exact h3.2

theorem wpC_take {i : Nat} {oi : Oper} {v : Value} {fuel : Nat} {listed : Array Bool} {a : Act} {w : World} (hi : ops[i]? = some oi)
    (hs : Region.noSelect ops = true) (hf : Region.free md ops listed i = true) (hr : i ∈ Region.ready md ops listed)
    (hQ : ∀ c a w, Q (.panic c) (a.put oi.dst v) w → Q (.panic c) a w) (hy : YC P ops C oi v a)
    (h : wpC P md ops Q C fuel (listed.setIfInBounds i true) (a.put oi.dst v) w) : wpC P md ops Q C (fuel + 1) listed a w :=
  wpC_first hi (Region.noSelect_spec hs) hQ fuel listed a w (Region.free_spec hi hf) hr hy h

end
/-- a load of what stays -/
theorem op_loadF {env : Env} {e : Entry} {F : Blks} {w : World} {st : St} {V : Nat → Value} {fp : Nat → Blks} {a : Act} {o : Oper} {R : Type} {K : Unit → St → Option R} {res : R} {C : Cx R} {gh : Nat → Value} {next : Act → World → Prop} {P : Program} {T : TypeId} {s : Nat}
    {U : TypeId} {t : Ty} {y : (Ty.ptr U t).I} (hE : EnvTy P env) (ho : o.op = .load T (.tmp s)) (hst : st (env.b + s) = .v (.ptr U t) .s y) (hS : SR e F w st V fp none') (hA : AR env gh a V) (hN : Nxt env gh e K res next) (h : (evOp env o).run C st K = some res) :
    ∃ v, (∀ w', (∀ b, F b → Same w w' b) → (execOp a.eval o).run P w' = .ok (.value v) w') ∧ next (a.put o.dst v) w := by
  simp only [evOp, ho, rdP] at h
  obtain ⟨sv0, h, hx0⟩ := rdO_inv h
  have hsv0 : sv0 = .v (.ptr U t) .s y := by
    rcases hx0 with ⟨s', hs', hs, h9⟩ | ⟨c, hc, _⟩ | ⟨f, hf, _⟩
    · cases hs'
      rw [hst] at h9
      exact h9
    · cases hc
    · cases hf
  subst hsv0
  dsimp only at h
  obtain ⟨sv, h1, hx⟩ := rdO_inv h
  rcases hx with ⟨s', hs', hs, rfl⟩ | ⟨c, hc, _⟩ | ⟨f, hf, _⟩
  · cases hs'
    have hev : a.eval (.tmp s) = V (env.b + s) := hA.tmps s hs
    have hsv := hS.sv (env.b + s)
    rw [hst] at h1 hsv
    cases y with
    | none => simp [RM.run] at h1
    | some y =>
      dsimp only at h1
      have hr := hsv.2
      simp only [rep] at hr
      obtain ⟨A, e1, ad, rfl, hsp, e2, e3, e4⟩ := hr
      obtain ⟨b, k, sp⟩ := ad
      simp only at hsp
      subst hsp
      have hval : a.eval (.tmp s) = .pointer (some ⟨b, k, none⟩) := by rw [hev, ptr_val (hsv.1 nofun)]; exact e1
      split at h1
      · rename_i hT
        have h1' : t.agg = false → one (rowW w b k 0) := fun hag => rep_one e4 nofun hag
        obtain ⟨st', V', fp', F', k1, k2, k3⟩ := fin_invV (v := valOf t (rowW w b k)) (fq := none') hS hA h1 (fun _ => isV_valOf h1') (rep_s (rep_cells (fun j hj => (valOf_cv h1' j hj).symm) e4)) (fun _ hb => hb)
        refine ⟨_, fun w' hw' => ?_, hN _ _ _ _ _ _ k2 k3 k1⟩
        have hsm := hw' b e2
        have e3' := (holds_same hsm).2 e3
        rw [← row_same hsm]
        simp only [execOp, ho, hval, Instr.loadAt, Instr.sureAddr, Sem.run_bind, Sem.run_pure, Result.andThen_ok, pure_bind, run_loadVar (Env.is_ok hE hT) e3']
      · simp [RM.run] at h1
  · cases hc
  · cases hf

section
variable {P : Program} {env : Env} {e : Entry} {R : Type} {res : R} {C : Cx R} {gh : Nat → Value}

/-- an entry anew: from here on -/
def Entry.now (e : Entry) (F : Blks) (w : World) : Entry := ⟨w, fun b => ¬ F b ∧ (e.O b ∨ e.w0.heap.size ≤ b), F⟩

theorem SR.now {F : Blks} {w : World} {st : St} {V : Nat → Value} {fp : Nat → Blks} (h : SR e F w st V fp none') : SR (e.now F w) F w st V fp none' :=
  ⟨h.sv, h.disj, h.notF, h.inH, h.inF, h.flD, h.flF, h.flH, Grew.refl _, fun _ _ _ => rfl, fun i b hb => .inl ⟨h.notF i b hb, h.g3 i b hb⟩, fun _ hb => hb.elim, fun _ hb => hb, fun _ hb => .inl hb⟩

theorem SR.then {F F' : Blks} {w w' : World} {st st' : St} {V V' : Nat → Value} {fp fp' : Nat → Blks} (h : SR e F w st V fp none') (h' : SR (e.now F w) F' w' st' V' fp' none') : SR e F' w' st' V' fp' none' := by
  have h1 := h'.g1.size
  have h0 := h.g1.size
  have hs : (e.now F w).w0.heap.size = w.heap.size := rfl
  refine ⟨h'.sv, h'.disj, h'.notF, h'.inH, h'.inF, h'.flD, h'.flF, h'.flH, h.g1.trans h'.g1, fun b hb hO => ?_, fun i b hb => ?_, fun _ hb => hb.elim, fun b hb => h'.g5 b (h.g5 b hb), fun b hb => ?_⟩
  · refine same_trans (h.g2 b hb hO) (h'.g2 b (by omega) fun hc => ?_)
    rcases hc.2 with hc | hc
    · exact hO hc
    · omega
  · rcases h'.g3 i b hb with hb | hb
    · exact hb.2
    · right; omega
  · rcases h'.g6 b hb with hb | hb | hb
    · exact h.g6 b hb
    · exact .inr hb.2
    · right; right; omega

theorem CxOk.now {Q : Exit → Act → World → Prop} {F : Blks} {w : World} {st : St} {V : Nat → Value} {fp : Nat → Blks} (h : SR e F w st V fp none') (hC : CxOk P env gh e C res Q) : CxOk P env gh (e.now F w) C res Q :=
  ⟨fun p ch F' w' st' V' fp' a hS' hA hp hk => hC.pan p ch _ _ _ _ _ a (h.then hS') hA hp hk, hC.inl⟩

/-- the worlds that may come meanwhile -/
def Cl (ro : Bool) (F : Blks) (w w' : World) : Prop := if ro = true then w' = w else ∀ b, F b → Same w w' b

theorem wpC_mono {P : Program} {ops : Array Oper} {Q : Exit → Act → World → Prop} {md : Region.Mode} {C C' : World → Prop} (hC : ∀ w, C' w → C w) : ∀ {fuel : Nat} {listed : Array Bool} {a : Act} {w : World}, wpC P md ops Q C' fuel listed a w → wpC P md ops Q C fuel listed a w
  | 0, _, _, _, h => ⟨hC _ h.1, h.2⟩
  | _ + 1, _, _, _, h => ⟨hC _ h.1, h.2.1, fun i hi => wpOp_mono (fun _ _ h => wpC_mono hC h) (h.2.2 i hi)⟩

theorem evAll_mem {l : List (Option R)} {r : R} (h : evAll l = some r) : ∀ x ∈ l, x = some r := by
  induction l with
  | nil => cases h
  | cons x xs ih =>
    cases xs with
    | nil => intro y hy; simp only [List.mem_singleton] at hy; rw [hy]; exact h
    | cons z zs =>
      obtain ⟨h1, h2⟩ := both_some (show both x (evAll (z :: zs)) = some r from h)
      intro y hy
      rcases List.mem_cons.1 hy with hy | hy
      · rw [hy]; exact h1
      · exact ih h2 y hy

theorem draw_sound (hE : EnvTy P env) (hF : EnvFn P env) {ops : Array Oper} {ro : Bool} (hsel : Region.noSelect ops = true) {K : St → Option R} {Q : Exit → Act → World → Prop} (hQp : ∀ (i : Nat) o c a w v, ops[i]? = some o → Q (.panic c) (a.put o.dst v) w → Q (.panic c) a w) :
    ∀ (fuel : Nat) (listed : Array Bool) (e : Entry) (F : Blks) (w : World) (st : St) (V : Nat → Value) (fp : Nat → Blks) (a : Act), CxOk P env gh e C res Q → (∀ F w st V fp a, SR e F w st V fp none' → AR env gh a V → K st = some res → Q .normal a w) →
      SR e F w st V fp none' → AR env gh a V → evDraw env C ops ro fuel listed st K = some res → wpC P .any ops Q (Cl ro F w) fuel listed a w := by
  have hCl : ∀ {F : Blks} {w : World}, Cl ro F w w := by
    intro F w
    unfold Cl
    split
    · rfl
    · exact fun b hb => rfl
  intro fuel
  induction fuel with
  | zero =>
    intro listed e F w st V fp a hC hQ hS hA h
    simp only [evDraw] at h
    split at h
    · rename_i hr
      exact ⟨hCl, hr, hQ _ _ _ _ _ _ hS hA h⟩
    · cases h
  | succ fuel ih =>
    intro listed e F w st V fp a hC hQ hS hA h
    have hQ' : ∀ F' w' st V fp a, SR (e.now F w) F' w' st V fp none' → AR env gh a V → K st = some res → Q .normal a w' := fun F' w' st V fp a hS' hA' h' => hQ _ _ _ _ _ _ (hS.then hS') hA' h'
    simp only [evDraw] at h
    split at h
    · rename_i i hfi
      have hmem := List.mem_of_find?_eq_some hfi
      have hprop := List.find?_some hfi
      simp only [Bool.and_eq_true] at hprop
      split at h
      · rename_i o ho
        have hst : stable env ro st o = true := by
          have := hprop.2
          unfold opAt at this
          rw [ho] at this
          exact this
        have hmono : ∀ {F' : Blks} {a' : Act}, (∀ b, F b → F' b) → wpC P .any ops Q (Cl ro F' w) fuel (listed.setIfInBounds i true) a' w → wpC P .any ops Q (Cl ro F w) fuel (listed.setIfInBounds i true) a' w := by
          intro F' a' hFF h
          refine wpC_mono (fun x hx => ?_) h
          unfold Cl at hx ⊢
          split
          · rename_i hr; rw [if_pos hr] at hx; exact hx
          · rename_i hr; rw [if_neg hr] at hx; exact fun b hb => hx b (hFF b hb)
        have key : ∃ v, YC P ops (Cl ro F w) o v a ∧ wpC P .any ops Q (Cl ro F w) fuel (listed.setIfInBounds i true) (a.put o.dst v) w := by
          rcases evG_inv hS hA h with ⟨hw, h⟩ | ⟨hw, h⟩
          · have hN : Nxt env gh (e.now F w) (fun _ st => evDraw env C ops ro fuel (listed.setIfInBounds i true) st K) res (fun a' w' => w' = w → wpC P .any ops Q (Cl ro F w) fuel (listed.setIfInBounds i true) a' w') := by
              intro F' w' st' V' fp' a' hS' hA' h' hw'
              subst hw'
              exact hmono (fun b hb => hS'.g5 b hb) (ih _ _ _ _ _ _ _ _ (hC.now hS) hQ' hS' hA' h')
            unfold stable at hst
            simp only [Bool.or_eq_true] at hst
            rcases hst with hp | hp | hl
            · obtain ⟨v, v1, v2⟩ := evOp_pure hE hp hS.now hA hN h
              exact ⟨v, .inl ⟨hw, fun w' _ => v1 w'⟩, v2 rfl⟩
            · obtain ⟨v, v1, v2⟩ := op_convI hE hp hS.now hA hN h
              exact ⟨v, .inl ⟨hw, fun w' _ => v1 w'⟩, v2 rfl⟩
            · split at hl
              · rename_i T s hop
                simp only [Bool.or_eq_true] at hl
                rcases hl with hr | hl
                · obtain ⟨v, v1, v2⟩ := op_load hE hop hS.now hA hN h
                  refine ⟨v, .inl ⟨hw, fun w' hw' => ?_⟩, v2 rfl⟩
                  unfold Cl at hw'
                  rw [if_pos hr] at hw'
                  rw [hw']
                  exact v1
                · split at hl
                  · rename_i U t y hsy
                    obtain ⟨v, v1, v2⟩ := op_loadF hE hop hsy hS.now hA hN h
                    refine ⟨v, .inl ⟨hw, fun w' hw' => v1 w' ?_⟩, v2 rfl⟩
                    unfold Cl at hw'
                    split at hw'
                    · rw [hw']; exact fun b _ => rfl
                    · exact hw'
                  · rename_i hsy
                    simp only [evOp, hop, rdP] at h
                    obtain ⟨sv0, h, hx⟩ := rdO_inv h
                    rcases hx with ⟨s', hs', hs, rfl⟩ | ⟨c, hc, _⟩ | ⟨f, hf, _⟩
                    · cases hs'
                      rw [hsy] at h
                      obtain ⟨sv, h1, hx⟩ := rdO_inv h
                      rcases hx with ⟨s', hs', hs, rfl⟩ | ⟨c, hc, _⟩ | ⟨f, hf, _⟩
                      · cases hs'
                        rw [hsy] at h1
                        simp [RM.run] at h1
                      · cases hc
                      · cases hf
                    · cases hc
                    · cases hf
                  · rename_i r p hsy
                    simp only [evOp, hop] at h
                    obtain ⟨sv, h1, hx⟩ := rdO_inv h
                    have hxx : sv = .bx r p := by
                      rcases hx with ⟨s', hs', hs, rfl⟩ | ⟨c, hc, _⟩ | ⟨f, hf, _⟩
                      · cases hs'; exact hsy
                      · cases hc
                      · cases hf
                    subst hxx
                    obtain ⟨v, v1, v2⟩ := op_loadB hE hop (bx_val hS.now hA hx) hS.now hA hN h1
                    refine ⟨v, .inl ⟨hw, fun w' hw' => v1 w' ?_⟩, v2 rfl⟩
                    unfold Cl at hw'
                    split at hw'
                    · rw [hw']; exact fun b _ => rfl
                    · exact hw'
                  · cases hl
              · cases hl
          · obtain ⟨V', fp', h1, h2⟩ := skip_ok (dst := o.dst) h.2 hS.now hA
            exact ⟨undef, .inr ⟨hw, rfl⟩, ih _ _ _ _ _ _ _ _ (hC.now hS) hQ' h1 h2 h.1⟩
        obtain ⟨v, k1, k2⟩ := key
        exact wpC_take ho hsel hprop.1 hmem (fun c a w hc => hQp i o c a w _ ho hc) k1 k2
      · cases h
    · split at h
      · rename_i hr
        exact ⟨hCl, fun _ => hQ _ _ _ _ _ _ hS hA h, fun i hi => by rw [hr] at hi; cases hi⟩
      · split at h
        · have hN : ∀ i F' w' st' V' fp' a', SR (e.now F w) F' w' st' V' fp' none' → AR env gh a' V' → evDraw env C ops false fuel (listed.setIfInBounds i true) st' K = some res → wpC P .any ops Q (Cl false F w) fuel (listed.setIfInBounds i true) a' w' := by
            intro i F' w' st' V' fp' a' hS' hA' h'
            refine wpC_mono (fun x hx => ?_) (ih _ _ _ _ _ _ _ _ (hC.now hS) hQ' hS' hA' h')
            unfold Cl at hx ⊢
            simp only [Bool.false_eq_true, if_false] at hx ⊢
            exact fun b hb => same_trans (hS'.g2 b (hS.inF b hb) (fun hc => hc.1 hb)) (hx b (hS'.g5 b hb))
          refine ⟨hCl, (fun hc => by rw [hc] at h; cases h), fun j hj => ?_⟩
          have h := evAll_mem h _ (List.mem_map.2 ⟨j, hj, rfl⟩)
          split at h
          · rename_i o ho
            unfold wpOp
            rw [ho]
            rcases evG_inv hS.now hA h with ⟨hw, h⟩ | ⟨hw, h⟩
            · simp only
              rw [if_pos hw]
              exact .inl (evOp_sound hE hF (hC.now hS) hS.now hA (fun F' w' st' V' fp' a' hS' hA' h' => hN j F' w' st' V' fp' a' hS' hA' h') h)
            · simp only
              rw [hw]
              obtain ⟨V', fp', h1, h2⟩ := skip_ok (dst := o.dst) h.2 hS.now hA
              exact hN _ _ _ _ _ _ _ h1 h2 h.1
          · cases h
        · cases h

end
end Go.Trm
