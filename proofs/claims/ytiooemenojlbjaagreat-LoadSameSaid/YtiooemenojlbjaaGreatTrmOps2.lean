import Derived.Test.YtiooemenojlbjaaGreatTrmOps1
set_option linter.unusedVariables false
set_option linter.unusedSimpArgs false
namespace Go.Trm

/-- what is frozen stays -/
theorem rep_freeze {F F' : Blks} {w : World} (hF : ∀ b, F b → F' b) : ∀ {t : Ty} {m : Md} {x : t.I} {c : Cells} {fq : Blks}, rep F w t m x c fq → m.noJ = true → (∀ b, fq b → F' b) → rep F' w t .s x c (fun _ => False) := by
  intro t
  induction t with
  | sl e t ih =>
    intro m (x : List t.I) c fq h hm hq
    cases m with
    | s => exact rep_frame hF (fun _ _ => rfl) (fun _ hb => hb.elim) (rep_s h)
    | o m =>
      simp only [rep] at h ⊢
      obtain ⟨A, cap, h1, h2, h3, h4, r⟩ := h
      refine ⟨A, cap, h1, h2, h3, h4, fun a ha => ?_⟩
      obtain ⟨hsp, r1, r2, fs, r3, r4, r5⟩ := r a ha
      refine ⟨hsp, .inr ⟨hq _ r1, ?_⟩, fun i hi => ih (r5 i hi) hm (fun b hb => hq _ (r4 i b hb).1)⟩
      obtain ⟨cs, el, fz, k1, k2, _⟩ := r2
      have : List.length x * t.size ≤ cap * t.size := Nat.mul_le_mul_right _ h2
      exact ⟨cs, el, fz, k1, by omega, nofun⟩
    | j => cases hm
    | p _ _ =>
      simp only [rep] at h ⊢
      obtain ⟨A, cap, h1, h2, h3, h4, r⟩ := h
      exact ⟨A, cap, h1, h2, h3, h4, fun a ha => ((r a ha).2).elim⟩
  | ptr e t ih =>
    intro m x c fq h hm hq
    cases m with
    | s => exact rep_frame hF (fun _ _ => rfl) (fun _ hb => hb.elim) (rep_s h)
    | o m =>
      simp only [rep] at h ⊢
      obtain ⟨A, h1, r⟩ := h
      refine ⟨A, h1, ?_⟩
      cases x with
      | none => exact r
      | some y =>
        obtain ⟨a, ha, hsp, r1, r2, f, r4, r5⟩ := r
        obtain ⟨cs, el, fz, k1, k2, _⟩ := r2
        exact ⟨a, ha, hsp, hq _ r1, ⟨cs, el, fz, k1, k2, nofun⟩, ih r5 hm (fun b hb => hq _ (r4 b hb).1)⟩
    | j => cases hm
    | p _ _ =>
      simp only [rep] at h ⊢
      obtain ⟨A, h1, r⟩ := h
      refine ⟨A, h1, ?_⟩
      cases x with
      | none => exact r
      | some y => obtain ⟨a, ha, hsp, r⟩ := r; exact r.elim
  | pair a b iha ihb =>
    intro m x c fq h hm hq
    obtain ⟨fa, fb, h1, h2, h3, ra, rb⟩ := rep_pair h
    have hm' : m.fst.noJ = true ∧ m.snd.noJ = true := by
      cases m <;> simp only [Md.noJ, Md.fst, Md.snd, Bool.and_eq_true, Bool.false_eq_true] at hm ⊢ <;> first | exact ⟨trivial, trivial⟩ | exact hm | exact ⟨hm, hm⟩
    simp only [rep, Md.fst, Md.snd]
    exact ⟨_, _, fun _ h => h, fun _ h => h, fun _ h => h.elim, iha ra hm'.1 (fun b hb => hq _ (h1 b hb)), ihb rb hm'.2 (fun b hb => hq _ (h2 b hb))⟩
  | arr n t ih =>
    intro m x c fq h hm hq
    have hm' : m.el.noJ = true := by
      cases m <;> first | exact hm | cases hm
    have hj' : m ≠ .j := by rintro rfl; simp [Md.noJ] at hm
    have key : List.length (x : List t.I) = n ∧ ∃ fs : Nat → Blks, (∀ i b, fs i b → fq b) ∧ ∀ i, i < n → rep F w t m.el (List.getD (x : List t.I) i t.dflt) (fun j => c (i * t.size + j)) (fs i) := by
      cases m with
      | j => exact absurd rfl hj'
      | _ => simp only [rep] at h; obtain ⟨hn, fs, _, h2, r⟩ := h; exact ⟨hn, fs, h2, r⟩
    obtain ⟨hn, fs, h2, r⟩ := key
    simp only [rep, Md.el]
    exact ⟨hn, fun _ _ => False, ⟨fun _ _ _ _ h => h.elim⟩, fun _ _ h => h.elim, fun i hi => ih (r i hi) hm' (fun b hb => hq _ (h2 i b hb))⟩
  | _ => intro m x c fq h hm hq; cases m <;> simp only [rep] at h ⊢ <;> first | exact h | cases hm

theorem chgW_refl (w : World) (u : Ty) (ad : Option (Nat × Nat)) : ChgW w w u ad := by
  cases ad with
  | none => exact fun b => rfl
  | some bo => exact ⟨fun _ _ => rfl, fun _ _ => rfl, fun _ _ h => h⟩

section
variable {P : Program} {env : Env} {e : Entry} {F : Blks} {w : World} {st : St} {V : Nat → Value} {fp : Nat → Blks} {fl : Blks} {a : Act} {T : TypeId} {x : Operand} {α R : Type} {K : α → St → Option R} {res : R} {C : Cx R} {gh : Nat → Value}

theorem SR.less (h : SR e F w st V fp fl) {fl' : Blks} (hf : ∀ b, fl' b → fl b) : SR e F w st V fp fl' :=
  ⟨h.sv, h.disj, h.notF, h.inH, h.inF, fun i b h1 h2 => h.flD i b h1 (hf _ h2), fun b hb => h.flF b (hf _ hb), fun b hb => h.flH b (hf _ hb), h.g1, h.g2, h.g3, fun b hb => h.g4 b (hf _ hb), h.g5, h.g6⟩

/-- more is known to stay -/
theorem SR.moreF {F' fl' : Blks} (h : SR e F w st V fp fl) (hF : ∀ b, F b → F' b) (hF' : ∀ b, F' b → F b ∨ fl b) (h1 : ∀ b, fl' b → fl b) (h2 : ∀ b, fl' b → ¬ F' b) : SR e F' w st V fp fl' := by
  refine ⟨fun i => ?_, h.disj, fun i b hb hc => ?_, h.inH, fun b hb => ?_, fun i b hb hc => h.flD i b hb (h1 b hc), h2, fun b hb => h.flH b (h1 b hb), h.g1, h.g2, h.g3, fun b hb => h.g4 b (h1 b hb), fun b hb => hF b (h.g5 b hb), fun b hb => ?_⟩
  · have hs := h.sv i
    cases hsi : st i with
    | v t1 m1 x1 => rw [hsi] at hs; exact ⟨hs.1, rep_frame hF (fun _ _ => rfl) (fun _ _ => rfl) hs.2⟩
    | tup l =>
      rw [hsi] at hs
      obtain ⟨vs, e1, e2, fs, e3, e4, e5⟩ := hs
      refine ⟨vs, e1, e2, fs, e3, e4, fun k t1 m1 x1 hk => ?_⟩
      obtain ⟨u1, k1, k2, k3⟩ := e5 k t1 m1 x1 hk
      exact ⟨u1, k1, k2, rep_frame hF (fun _ _ => rfl) (fun _ _ => rfl) k3⟩
    | al r q => rw [hsi] at hs; exact hs
    | lz r q => rw [hsi] at hs; exact hs
    | sub r q lo hi => rw [hsi] at hs; exact hs
    | fn f s caps =>
      rw [hsi] at hs
      obtain ⟨us, vs, e1, e2, e3⟩ := hs
      have hbx : ∀ r u, BxOk F w V r u → BxOk F' w V r u := fun r u hb => hb.imp hF (fun _ _ => rfl) (fun _ => rfl)
      exact ⟨us, vs, e1, e2.imp hbx fun q u _ hq => hq, e3.imp hbx fun q u _ hq => hq⟩
    | bx r q => rw [hsi] at hs; exact BxOk.imp hs hF (fun _ _ => rfl) (fun _ => rfl)
    | ifc T t1 x1 =>
      rw [hsi] at hs
      obtain ⟨u, e1, e2, e3, e4⟩ := hs
      exact ⟨u, e1, e2, e3, rep_frame hF (fun _ _ => rfl) (fun _ _ => rfl) e4⟩
    | nil => rw [hsi] at hs; exact hs
    | un => trivial
  · rcases hF' b hc with hc | hc
    · exact h.notF i b hb hc
    · exact h.flD i b hb hc
  · rcases hF' b hb with hb | hb
    · exact h.inF b hb
    · exact h.flH b hb
  · rcases hF' b hb with hb | hb
    · exact h.g6 b hb
    · exact .inr (h.g4 b hb)

theorem take_inv {val : Value} {t : Ty} {m : Md} {y : t.I} {src : Src} {k : RM α} (hS : SR e F w st V fp fl) (hd : DataAt F w st V val t m y src) (h : (take src k).run C st K = some res) :
    ∃ st' fp' fq, k.run C st' K = some res ∧ SR e F w st' V fp' (fun b => fl b ∨ fq b) ∧ isV t val ∧ m ≠ .j ∧ rep F w t m y (cv val) fq ∧ (∀ b, fq b → ¬ fl b) ∧ (∀ r', src = none ∨ (∃ r p, src = some (r, p) ∧ r' ≠ r) → ∀ t0 m0 x0, st' r' = .v t0 m0 x0 ↔ st r' = .v t0 m0 x0) := by
  cases src with
  | none => exact ⟨st, fp, fun _ => False, h, hS.less (fun b hb => by rcases hb with hb | hb; exact hb; exact hb.elim), hd.1, hd.2.1, hd.2.2, fun _ hb => hb.elim, fun _ _ _ _ _ => Iff.rfl⟩
  | some q =>
    obtain ⟨r, p⟩ := q
    obtain ⟨hv, hm, fq0, hrep, hfq⟩ := hd.rep hS
    obtain ⟨_, t0, m0, x0, h1, y0, h2, h3, h4, c', ad, h5, h6⟩ := hd
    simp only [take, RM.run, h1, h2] at h
    split at h
    · rename_i m' x' hset
      simp only [RM.run] at h
      have hrr := hS.sv r
      rw [h1] at hrr
      obtain ⟨fold, P⟩ := put_of hrr.2 (hS.inH r) hS.inF h4 h3 h5
      obtain ⟨mo, yo, g1, g2⟩ := P.old
      rw [h2] at g1
      simp only [Option.some.injEq] at g1
      cases g1
      have hm0 : m0 ≠ .j := fun hc => by subst hc; exact hm (getP_j h2)
      have h1' : t.agg = false → one (c' 0) := fun ha => rep_one g2 hm ha
      refine ⟨_, _, fold, h, (hS.place h1 hm0 P h4 h3 h5 hset (fun _ hb => hb) rfl (Still.refl _) (chgW_refl _ _ _) (fq := fun _ => False) (fl' := fun b => fl b ∨ fold b) rep_j (fun _ hb => hb.elim) (fun b hb => ⟨hb, fun h => h⟩) (fun b hb => .inl hb)), hv, hm, ?_, ?_, ?_⟩
      · exact (h6.rep hm g2).2
      · exact fun b hb => hS.flD _ _ (P.sub _ hb)
      · rintro r' (hc | ⟨r1, p1, hc, hr'⟩) t1 m1 x1
        · cases hc
        · cases hc
          rw [put_other hr']
          exact kill_v
    · simp [RM.run] at h

theorem freeze_inv {val : Value} {t : Ty} {m : Md} {y : t.I} {src : Src} {k : RM α} (hS : SR e F w st V fp fl) (hd : DataAt F w st V val t m y src) (hn : src = none → m = .s) (h : (freeze src k).run C st K = some res) :
    ∃ st' fp' F', k.run C st' K = some res ∧ SR e F' w st' V fp' fl ∧ (∀ b, F b → F' b) ∧ isV t val ∧ rep F' w t .s y (cv val) (fun _ => False) := by
  cases src with
  | none => obtain rfl := hn rfl; exact ⟨st, fp, F, h, hS, fun _ hb => hb, hd.1, rep_s hd.2.2⟩
  | some q =>
    obtain ⟨r, p⟩ := q
    obtain ⟨hv, hm, fq0, hrep, hfq⟩ := hd.rep hS
    obtain ⟨_, t0, m0, x0, h1, y0, h2, h3, h4, c', ad, h5, h6⟩ := hd
    simp only [freeze, RM.run, h1, h2] at h
    split at h
    · rename_i m' x' hnj hset
      simp only [RM.run] at h
      have hrr := hS.sv r
      rw [h1] at hrr
      obtain ⟨fold, P⟩ := put_of hrr.2 (hS.inH r) hS.inF h4 h3 h5
      obtain ⟨mo, yo, g1, g2⟩ := P.old
      rw [h2] at g1
      simp only [Option.some.injEq] at g1
      cases g1
      have hm0 : m0 ≠ .j := fun hc => by subst hc; exact hm (getP_j h2)
      have h1' : t.agg = false → one (c' 0) := fun ha => rep_one g2 hm ha
      have hfz : rep (fun b => F b ∨ fold b) w t .s y0 c' (fun _ => False) := rep_freeze (fun _ hb => .inl hb) g2 hnj (fun _ hb => .inr hb)
      have hnr : newRow w c' ad = c' := by
        cases ad with
        | none => rfl
        | some bo => obtain ⟨b, o⟩ := bo; exact ((P.lies b o rfl).2.2.2).symm
      refine ⟨_, _, fun b => F b ∨ fold b, h, (hS.place h1 hm0 P h4 h3 h5 hset (fun _ hb => .inl hb) rfl (Still.refl _) (chgW_refl _ _ _) (fq := fun _ => False) (fl' := fl) (by rw [hnr]; exact hfz) (fun _ hb => hb.elim) (fun b hb => ⟨.inl hb, fun h => h⟩)
        (fun b hb => by
          rcases hb with hb | hb
          · exact .inl hb
          · exact .inr ⟨.inl hb, fun h => h, fun hc => hS.flD _ _ (P.sub _ hb) hc⟩)), fun _ hb => .inl hb, hv, ?_⟩
      exact (h6.rep (m := .s) nofun hfz).2
    · simp [RM.run] at h

theorem AR.put {d : Nat} {v : Value} (hA : AR env gh a V) (hd : d < env.n) : AR env gh (a.put (some d) v) (updV V (env.b + d) v) := by
  have hl := hA.lim
  refine ⟨by simp [Act.put, hA.size], fun i hi => ?_, ?_, hA.lim, fun i hi => ?_⟩
  · simp only [Act.put, updV]
    by_cases hid : i = d
    · subst hid
      have : i < a.tmps.size := by rw [hA.size]; exact hi
      simp [Array.getD, this]
    · rw [if_neg (by omega), ← hA.tmps i hi]
      have h2 : i < a.tmps.size := by rw [hA.size]; exact hi
      simp only [Array.getD_eq_getD_getElem?]
      rw [Array.getElem?_setIfInBounds_ne (Ne.symm hid)]
  · have h1 : updV V (env.b + d) v (env.b + env.n) = V (env.b + env.n) := by unfold updV; rw [if_neg (by omega)]
    rw [h1]
    exact hA.defers
  · unfold updV
    rw [if_neg (by omega)]
    exact hA.keep i hi

theorem blt_lt {d n : Nat} (h : Nat.blt d n = true) : d < n := Nat.lt_of_lt_of_le (Nat.lt_succ_self _) (Nat.le_of_ble_eq_true h)

theorem AR.gd {d : Nat} {v : Value} (hA : AR env gh a V) (hd : d < env.n) : gh0 ≤ env.b + d → v = V (env.b + d) := fun hc => absurd hc (by have := hA.lim; omega)

theorem fin_invV {o : Oper} {t : Ty} {m : Md} {y : t.I} {v : Value} {fq : Blks} {K : Unit → St → Option R} (hS : SR e F w st V fp fl) (hA : AR env gh a V) (h : (fin env o (.v t m y)).run C st K = some res) (hv : m ≠ .j → isV t v) (hrep : rep F w t m y (cv v) fq) (hq : ∀ b, fq b → fl b) :
    ∃ st' V' fp' F', K () st' = some res ∧ SR e F' w st' V' fp' (fun _ => False) ∧ AR env gh (a.put o.dst v) V' := by
  unfold fin at h
  split at h
  · rename_i d hd
    split at h
    · rename_i hb
      simp only [frz] at h
      split at h
      · rename_i hz
        simp only [Bool.and_eq_true] at hz
        simp only [setS, RM.run] at h
        have hm : m ≠ .j := by rintro rfl; cases hz.2
        have hS1 := hS.moreF (F' := fun b => F b ∨ fq b) (fl' := fun b => fl b ∧ ¬ fq b) (fun b hb => .inl hb) (fun b hb => hb.imp id (hq b)) (fun b hb => hb.1) (fun b hb hc => by
          rcases hc with hc | hc
          · exact hS.flF b hb.1 hc
          · exact hb.2 hc)
        refine ⟨_, _, _, _, h, (hS1.fillV (fq := fun _ => False) (fl' := fun _ => False) (hA.gd (blt_lt hb)) (fun _ => hv hm) (rep_freeze (fun b hb => .inl hb) hrep hz.2 (fun b hb => .inr hb)) (fun _ hb => hb.elim) (fun _ hb => hb.elim)), ?_⟩
        rw [hd]; exact hA.put (blt_lt hb)
      · simp only [setS, RM.run] at h
        refine ⟨_, _, _, _, h, (hS.fillV (hA.gd (blt_lt hb)) hv hrep hq (fl' := fun b => fl b ∧ ¬ fq b) (fun b hb => hb)).less (fun _ hb => hb.elim), ?_⟩
        rw [hd]; exact hA.put (blt_lt hb)
    · simp [RM.run] at h
  · rename_i hd
    simp only [RM.run] at h
    exact ⟨st, V, fp, F, h, hS.less (fun _ hb => hb.elim), by rw [hd]; exact hA⟩

theorem fin_invO {o : Oper} {sv : SV} {v : Value} {fq : Blks} {K : Unit → St → Option R} (hS : SR e F w st V fp fl) (hA : AR env gh a V) (hn : notV sv = true) (h : (fin env o sv).run C st K = some res) (hsv : svR F w st V fq v sv) (hq : ∀ b, fq b → fl b) :
    ∃ st' V' fp', K () st' = some res ∧ SR e F w st' V' fp' (fun _ => False) ∧ AR env gh (a.put o.dst v) V' := by
  unfold fin at h
  split at h
  · rename_i d hd
    split at h
    · rename_i hb
      have h' : K () (st.put (env.b + d) sv) = some res := by
        cases sv <;> first | (cases hn; done) | (simp only [frz, setS, RM.run] at h; exact h)
      refine ⟨_, _, _, h', (hS.fillO (hA.gd (blt_lt hb)) hn hsv hq (fl' := fun b => fl b ∧ ¬ fq b) (fun b hb => hb)).less (fun _ hb => hb.elim), ?_⟩
      rw [hd]; exact hA.put (blt_lt hb)
    · simp [RM.run] at h
  · rename_i hd
    simp only [RM.run] at h
    exact ⟨st, V, fp, h, hS.less (fun _ hb => hb.elim), by rw [hd]; exact hA⟩

end
end Go.Trm
