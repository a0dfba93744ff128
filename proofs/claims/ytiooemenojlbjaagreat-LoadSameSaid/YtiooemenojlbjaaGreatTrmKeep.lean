import Derived.Test.YtiooemenojlbjaaGreatTrmLens
set_option linter.unusedVariables false
set_option linter.unusedSimpArgs false
namespace Go.Trm

/-- where a place lies hangs on its own blocks alone -/
theorem rs_same {F : Blks} {w w' : World} : ∀ {q : List PE} {t : Ty} {m : Md} {x : t.I} {c c2 : Cells} {ad : Option (Nat × Nat)} {fp : Blks} {u : Ty} {c1 : Cells} {ad1 : Option (Nat × Nat)},
    rep F w t m x c fp → inP t x q → ownP t m q → (∀ b, fp b → Same w w' b) → (∀ j, j < t.size → c j = c2 j) → rs w t c ad q = some (u, c1, ad1) →
    ∃ c3, rs w' t c2 ad q = some (u, c3, ad1) ∧ ∀ j, j < u.size → c1 j = c3 j := by
  intro q t
  induction t generalizing q with
  | sl e t ih =>
    intro m x c c2 ad fp u c1 ad1 h hi ho hs hc hr
    cases q with
    | nil => simp only [rs, Option.some.injEq, Prod.mk.injEq] at hr ⊢; obtain ⟨rfl, rfl, rfl⟩ := hr; exact ⟨c2, ⟨rfl, rfl, rfl⟩, hc⟩
    | cons q p => cases q with
      | idx i =>
        cases m with
        | o m =>
          simp only [ownP] at ho
          simp only [inP] at hi
          simp only [rep] at h
          obtain ⟨A, cap, h1, h2, h3, h4, r⟩ := h
          cases A with
          | none => have := h4 rfl; omega
          | some a =>
            obtain ⟨hsp, r1, r2, fs, r3, r4, r5⟩ := r a rfl
            simp only [rs] at hr ⊢
            rw [← hc 0 (by simp [Ty.size]), h1]
            rw [h1] at hr
            simp only at hr ⊢
            rw [row_same (hs _ r1)]
            exact ih (r5 _ hi.1) hi.2 ho (fun b hb => hs _ (r4 _ _ hb).1) (fun _ _ => rfl) hr
        | _ => simp [ownP] at ho
      | _ => simp [rs] at hr
  | ptr e t ih =>
    intro m x c c2 ad fp u c1 ad1 h hi ho hs hc hr
    cases q with
    | nil => simp only [rs, Option.some.injEq, Prod.mk.injEq] at hr ⊢; obtain ⟨rfl, rfl, rfl⟩ := hr; exact ⟨c2, ⟨rfl, rfl, rfl⟩, hc⟩
    | cons q p => cases q with
      | der =>
        cases m with
        | o m =>
          cases x with
          | none => simp [inP] at hi
          | some x =>
            simp only [ownP] at ho
            simp only [inP] at hi
            simp only [rep] at h
            obtain ⟨A, h1, a, ha, hsp, r1, r2, f, r4, r5⟩ := h
            subst ha
            simp only [rs] at hr ⊢
            rw [← hc 0 (by simp [Ty.size]), h1]
            rw [h1] at hr
            simp only at hr ⊢
            rw [row_same (hs _ r1)]
            exact ih r5 hi ho (fun b hb => hs _ (r4 _ hb).1) (fun _ _ => rfl) hr
        | _ => simp [ownP] at ho
      | _ => simp [rs] at hr
  | arr n t ih =>
    intro m x c c2 ad fp u c1 ad1 h hi ho hs hc hr
    cases q with
    | nil => simp only [rs, Option.some.injEq, Prod.mk.injEq] at hr ⊢; obtain ⟨rfl, rfl, rfl⟩ := hr; exact ⟨c2, ⟨rfl, rfl, rfl⟩, hc⟩
    | cons q p => cases q with
      | idx i =>
        simp only [ownP] at ho
        obtain ⟨hmj, ho⟩ := ho
        simp only [inP] at hi
        simp only [rs] at hr ⊢
        have key : ∃ fs : Nat → Blks, (∀ i b, fs i b → fp b) ∧ List.length (x : List t.I) = n ∧ rep F w t m.el (List.getD (x : List t.I) i.toNat t.dflt) (fun j => c (i.toNat * t.size + j)) (fs i.toNat) := by
          cases m with
          | j => cases hmj
          | _ => simp only [rep] at h; obtain ⟨hn, fs, _, h2, r⟩ := h; exact ⟨fs, h2, hn, r _ (hn ▸ hi.1)⟩
        obtain ⟨fs, h2, hn, r⟩ := key
        refine ih r hi.2 ho (fun b hb => hs _ (h2 _ _ hb)) (fun j hj => hc _ ?_) hr
        have : i.toNat * t.size + t.size ≤ n * t.size := by
          rw [← Nat.succ_mul]; exact Nat.mul_le_mul_right _ (by have := hi.1; omega)
        simp only [Ty.size]; omega
      | _ => simp [rs] at hr
  | pair a b iha ihb =>
    intro m x c c2 ad fp u c1 ad1 h hi ho hs hc hr
    cases q with
    | nil => simp only [rs, Option.some.injEq, Prod.mk.injEq] at hr ⊢; obtain ⟨rfl, rfl, rfl⟩ := hr; exact ⟨c2, ⟨rfl, rfl, rfl⟩, hc⟩
    | cons q p => cases q with
      | fld n =>
        obtain ⟨fa, fb, h1, h2, h3, ra, rb⟩ := rep_pair h
        cases n with
        | zero =>
          simp only [ownP] at ho
          simp only [inP] at hi
          simp only [rs] at hr ⊢
          exact iha ra hi ho (fun b hb => hs _ (h1 _ hb)) (fun j hj => hc _ (by simp only [Ty.size]; omega)) hr
        | succ n =>
          simp only [ownP] at ho
          simp only [inP] at hi
          simp only [rs] at hr ⊢
          exact ihb rb hi ho (fun b hb => hs _ (h2 _ hb)) (fun j hj => hc _ (by simp only [Ty.size]; omega)) hr
      | _ => simp [rs] at hr
  | _ =>
    intro m x c c2 ad fp u c1 ad1 h hi ho hs hc hr
    cases q with
    | nil => simp only [rs, Option.some.injEq, Prod.mk.injEq] at hr ⊢; obtain ⟨rfl, rfl, rfl⟩ := hr; exact ⟨c2, ⟨rfl, rfl, rfl⟩, hc⟩
    | cons q p => simp [rs] at hr

/-- the same, where the cells change beside -/
theorem keepM {F : Blks} {w w' : World} : ∀ {q p : List PE} {t : Ty} {m : Md} {x : t.I} {b0 o0 : Nat} {fp : Blks} {u : Ty} {c1 : Cells} {ad1 : Option (Nat × Nat)} {uu : Ty} {cc : Cells} {b o : Nat} {mu : Md} {y : uu.I} {m' : Md} {x' : t.I},
    rep F w t m x (rowW w b0 o0) fp → ¬ fp b0 → inP t x p → ownP t m p → rs w t (rowW w b0 o0) (some (b0, o0)) p = some (uu, cc, some (b, o)) →
    pre q p = true → inP t x q → ownP t m q → rs w t (rowW w b0 o0) (some (b0, o0)) q = some (u, c1, ad1) → At F fp w w' b0 b o uu.size → setP t m x p uu mu y = some (m', x') →
    inP t x' q ∧ ownP t m' q ∧ ∃ c2, rs w' t (rowW w' b0 o0) (some (b0, o0)) q = some (u, c2, ad1) := by
  intro q p t
  induction t generalizing q p with
  | sl e t ih =>
    intro m (x : List t.I) b0 o0 fp u c1 ad1 uu cc b o mu y m' x' h hb0 hi ho hr hp hiq hoq hrq hat hset
    cases q with
    | nil => simp only [rs, Option.some.injEq, Prod.mk.injEq] at hrq ⊢; obtain ⟨rfl, rfl, rfl⟩ := hrq; exact ⟨by simp [inP], by simp [ownP], _, rfl, rfl, rfl⟩
    | cons e1 q => cases e1 with
      | idx k => cases p with
        | nil => simp [pre] at hp
        | cons e2 p => cases e2 with
          | idx i =>
            cases m with
            | o m =>
              simp only [ownP] at ho hoq
              simp only [inP] at hi hiq
              simp only [pre] at hp
              have hl := rep_lens (p := .idx i :: p) h hb0 (by simp only [inP]; exact hi) (by simp only [ownP]; exact ho) hr
              simp only [rep] at h
              obtain ⟨A, cap, h1, h2, h3, h4, r⟩ := h
              cases A with
              | none => have := h4 rfl; omega
              | some a =>
                obtain ⟨hsp, r1, r2, fs, r3, r4, r5⟩ := r a rfl
                simp only [rs] at hr hrq ⊢
                rw [h1] at hr hrq
                simp only at hr hrq
                simp only [setP] at hset
                cases hs2 : setP t m (List.getD (x : List t.I) i.toNat t.dflt) p uu mu y with
                | none => rw [hs2] at hset; cases hset
                | some z =>
                  obtain ⟨m2, x2⟩ := z
                  rw [hs2] at hset
                  simp only at hset
                  split at hset
                  · rename_i he
                    obtain rfl := Md.eqb_eq he
                    simp only [Option.some.injEq] at hset
                    obtain ⟨rfl, rfl⟩ := hset
                    have hne : ∀ i b, fs i b → b ≠ a.block := fun i b hb => (r4 i b hb).2
                    obtain ⟨fold, g⟩ := rep_lens (r5 _ hi.1) (fun hc => hne _ _ hc rfl) hi.2 ho hr
                    have hob : b ≠ b0 := by
                      rcases g.lies with ⟨rfl, _⟩ | ⟨g7, _⟩
                      · exact fun hc => hb0 (hc ▸ r1)
                      · exact fun hc => hb0 (hc ▸ (r4 _ _ g7).1)
                    have hb0s : rowW w' b0 o0 0 = rowW w b0 o0 0 := by
                      simp only [rowW]; rw [hat.other b0 (Ne.symm hob) (.inr (.inr rfl))]
                    rw [hb0s, h1]
                    simp only [inP, ownP]
                    by_cases e1 : k.toNat = i.toNat
                    · rw [e1] at hiq hrq ⊢
                      obtain ⟨k1, k2, k3⟩ := ih (r5 _ hi.1) (fun hc => hne _ _ hc rfl) hi.2 ho hr hp hiq.2 hoq hrq (hat.sub (fun b hb => (r4 _ _ hb).1) (.inl r1)) hs2
                      refine ⟨⟨Nat.lt_of_lt_of_eq hi.1 (List.length_set (as := x)).symm, ?_⟩, k2, k3⟩
                      rw [getD_set_self (l := x) hi.1]; exact k1
                    · have hbk : ∀ b', fs k.toNat b' → b' ≠ b := by
                        intro b' hb hc
                        subst hc
                        rcases g.lies with ⟨hc, _⟩ | ⟨hc, _⟩
                        · exact (r4 _ _ hb).2 hc
                        · exact r3.disj _ _ e1 _ hb hc
                      have hrow : ∀ j, j < t.size → rowW w a.block (a.off + k.toNat * t.size) j = rowW w' a.block (a.off + k.toNat * t.size) j := by
                        intro j hj
                        by_cases hc : a.block = b
                        · rw [rowW_at w, rowW_at w', hc]
                          refine (hat.row _ ?_).symm
                          rcases g.lies with ⟨_, g7, g8⟩ | ⟨_, g8, _⟩
                          · rcases Nat.lt_or_gt_of_ne e1 with hlt | hlt
                            · left
                              have : k.toNat * t.size + t.size ≤ i.toNat * t.size := by rw [← Nat.succ_mul]; exact Nat.mul_le_mul_right _ hlt
                              omega
                            · right
                              have : i.toNat * t.size + t.size ≤ k.toNat * t.size := by rw [← Nat.succ_mul]; exact Nat.mul_le_mul_right _ hlt
                              omega
                          · exact absurd hc.symm g8
                        · simp only [rowW]; rw [hat.other _ hc (.inr (.inl r1))]
                      obtain ⟨c3, k3, _⟩ := rs_same (r5 _ hiq.1) hiq.2 hoq (fun b' hb => hat.other _ (hbk b' hb) (.inr (.inl (r4 _ _ hb).1))) hrow hrq
                      refine ⟨⟨Nat.lt_of_lt_of_eq hiq.1 (List.length_set (as := x)).symm, ?_⟩, hoq, c3, k3⟩
                      rw [getD_set_other (l := x) e1]; exact hiq.2
                  · cases hset
            | _ => simp [ownP] at ho
          | _ => simp [rs] at hr
      | _ => simp [rs] at hrq
  | ptr e t ih =>
    intro m x b0 o0 fp u c1 ad1 uu cc b o mu y m' x' h hb0 hi ho hr hp hiq hoq hrq hat hset
    cases q with
    | nil => simp only [rs, Option.some.injEq, Prod.mk.injEq] at hrq ⊢; obtain ⟨rfl, rfl, rfl⟩ := hrq; exact ⟨by simp [inP], by simp [ownP], _, rfl, rfl, rfl⟩
    | cons e1 q => cases e1 with
      | der => cases p with
        | nil => simp [pre] at hp
        | cons e2 p => cases e2 with
          | der =>
            cases m with
            | o m =>
              cases x with
              | none => simp [inP] at hi
              | some x =>
                simp only [ownP] at ho hoq
                simp only [inP] at hi hiq
                simp only [pre] at hp
                simp only [rep] at h
                obtain ⟨A, h1, a, ha, hsp, r1, r2, f, r4, r5⟩ := h
                subst ha
                simp only [rs] at hr hrq ⊢
                rw [h1] at hr hrq
                simp only at hr hrq
                simp only [setP] at hset
                cases hs2 : setP t m x p uu mu y with
                | none => rw [hs2] at hset; cases hset
                | some z =>
                  obtain ⟨m2, x2⟩ := z
                  rw [hs2] at hset
                  simp only [Option.some.injEq] at hset
                  obtain ⟨rfl, rfl⟩ := hset
                  obtain ⟨fold, g⟩ := rep_lens r5 (fun hc => (r4 _ hc).2 rfl) hi ho hr
                  have hob : b ≠ b0 := by
                    rcases g.lies with ⟨rfl, _⟩ | ⟨g7, _⟩
                    · exact fun hc => hb0 (hc ▸ r1)
                    · exact fun hc => hb0 (hc ▸ (r4 _ g7).1)
                  have hb0s : rowW w' b0 o0 0 = rowW w b0 o0 0 := by
                    simp only [rowW]; rw [hat.other b0 (Ne.symm hob) (.inr (.inr rfl))]
                  rw [hb0s, h1]
                  simp only [inP, ownP]
                  exact ih r5 (fun hc => (r4 _ hc).2 rfl) hi ho hr hp hiq hoq hrq (hat.sub (fun b hb => (r4 _ hb).1) (.inl r1)) hs2
            | _ => simp [ownP] at ho
          | _ => simp [rs] at hr
      | _ => simp [rs] at hrq
  | arr n t ih =>
    intro m (x : List t.I) b0 o0 fp u c1 ad1 uu cc b o mu y m' x' h hb0 hi ho hr hp hiq hoq hrq hat hset
    cases q with
    | nil => simp only [rs, Option.some.injEq, Prod.mk.injEq] at hrq ⊢; obtain ⟨rfl, rfl, rfl⟩ := hrq; exact ⟨by simp [inP], by simp [ownP], _, rfl, rfl, rfl⟩
    | cons e1 q => cases e1 with
      | idx k => cases p with
        | nil => simp [pre] at hp
        | cons e2 p => cases e2 with
          | idx i =>
            simp only [ownP] at ho hoq
            obtain ⟨hmj, ho⟩ := ho
            simp only [inP] at hi hiq
            simp only [pre] at hp
            simp only [rs] at hr hrq ⊢
            rw [rowW_add] at hr hrq ⊢
            have key : ∃ fs : Nat → Blks, Disj fs ∧ (∀ i b, fs i b → fp b) ∧ List.length (x : List t.I) = n ∧
                ∀ i, i < n → rep F w t m.el (List.getD (x : List t.I) i t.dflt) (rowW w b0 (o0 + i * t.size)) (fs i) := by
              cases m with
              | j => cases hmj
              | _ =>
                simp only [rep] at h
                obtain ⟨hn, fs, h1, h2, r⟩ := h
                exact ⟨fs, h1, h2, hn, fun i hi => by rw [← rowW_add]; exact r i hi⟩
            obtain ⟨fs, r3, r4, hn, r5⟩ := key
            simp only [setP, hmj] at hset
            cases hs2 : setP t m.el (List.getD (x : List t.I) i.toNat t.dflt) p uu mu y with
            | none => rw [hs2] at hset; cases hset
            | some z =>
              obtain ⟨m2, x2⟩ := z
              rw [hs2] at hset
              simp only at hset
              split at hset
              · rename_i he
                obtain rfl := Md.eqb_eq he
                simp only [Option.some.injEq] at hset
                obtain ⟨rfl, rfl⟩ := hset
                obtain ⟨fold, g⟩ := rep_lens (r5 _ (hn ▸ hi.1)) (fun hc => hb0 (r4 _ _ hc)) hi.2 ho hr
                simp only [inP, ownP]
                by_cases e1 : k.toNat = i.toNat
                · rw [e1] at hiq hrq ⊢
                  obtain ⟨k1, k2, k3⟩ := ih (r5 _ (hn ▸ hi.1)) (fun hc => hb0 (r4 _ _ hc)) hi.2 ho hr hp hiq.2 hoq.2 hrq (hat.sub (fun b hb => r4 _ _ hb) (.inr rfl)) hs2
                  refine ⟨⟨Nat.lt_of_lt_of_eq hi.1 (List.length_set (as := x)).symm, ?_⟩, ⟨hmj, k2⟩, k3⟩
                  rw [getD_set_self (l := x) hi.1]; exact k1
                · have hbk : ∀ b', fs k.toNat b' → b' ≠ b := by
                    intro b' hb hc
                    subst hc
                    rcases g.lies with ⟨hc, _⟩ | ⟨hc, _⟩
                    · exact hb0 (hc ▸ r4 _ _ hb)
                    · exact r3.disj _ _ e1 _ hb hc
                  have hrow : ∀ j, j < t.size → rowW w b0 (o0 + k.toNat * t.size) j = rowW w' b0 (o0 + k.toNat * t.size) j := by
                    intro j hj
                    by_cases hc : b0 = b
                    · rw [rowW_at w, rowW_at w', hc]
                      refine (hat.row _ ?_).symm
                      rcases g.lies with ⟨_, g7, g8⟩ | ⟨_, g8, _⟩
                      · rcases Nat.lt_or_gt_of_ne e1 with hlt | hlt
                        · left
                          have : k.toNat * t.size + t.size ≤ i.toNat * t.size := by rw [← Nat.succ_mul]; exact Nat.mul_le_mul_right _ hlt
                          omega
                        · right
                          have : i.toNat * t.size + t.size ≤ k.toNat * t.size := by rw [← Nat.succ_mul]; exact Nat.mul_le_mul_right _ hlt
                          omega
                      · exact absurd hc.symm g8
                    · simp only [rowW]; rw [hat.other _ hc (.inr (.inr rfl))]
                  obtain ⟨c3, k3, _⟩ := rs_same (r5 _ (hn ▸ hiq.1)) hiq.2 hoq.2 (fun b' hb => hat.other _ (hbk b' hb) (.inr (.inl (r4 _ _ hb)))) hrow hrq
                  refine ⟨⟨Nat.lt_of_lt_of_eq hiq.1 (List.length_set (as := x)).symm, ?_⟩, hoq, c3, k3⟩
                  rw [getD_set_other (l := x) e1]; exact hiq.2
              · cases hset
          | _ => simp [rs] at hr
      | _ => simp [rs] at hrq
  | pair t1 t2 iha ihb =>
    intro m x b0 o0 fp u c1 ad1 uu cc b o mu y m' x' h hb0 hi ho hr hp hiq hoq hrq hat hset
    cases q with
    | nil => simp only [rs, Option.some.injEq, Prod.mk.injEq] at hrq ⊢; obtain ⟨rfl, rfl, rfl⟩ := hrq; exact ⟨by simp [inP], by simp [ownP], _, rfl, rfl, rfl⟩
    | cons e1 q => cases e1 with
      | fld k => cases p with
        | nil => simp [pre] at hp
        | cons e2 p => cases e2 with
          | fld n =>
            obtain ⟨fa, fb, h1, h2, h3, ra, rb⟩ := rep_pair h
            by_cases hkn : k = n
            case neg =>
              cases k with
              | zero =>
                obtain ⟨n, rfl⟩ : ∃ j, n = j + 1 := ⟨n - 1, by omega⟩
                simp only [rs, Option.map_some] at hr hrq ⊢
                simp only [inP] at hi hiq ⊢
                simp only [ownP] at ho hoq
                rw [rowW_add] at rb hr
                simp only [setP] at hset
                cases hs2 : setP t2 m.snd x.2 (.fld n :: p) uu mu y with
                | none => rw [hs2] at hset; cases hset
                | some z =>
                  obtain ⟨m2, x2⟩ := z
                  rw [hs2] at hset
                  simp only [Option.some.injEq] at hset
                  obtain ⟨rfl, rfl⟩ := hset
                  obtain ⟨fold, g⟩ := rep_lens rb (fun hc => hb0 (h2 _ hc)) hi ho hr
                  have hbk : ∀ b', fa b' → b' ≠ b := by
                    intro b' hb hc
                    subst hc
                    rcases g.lies with ⟨hc, _⟩ | ⟨hc, _⟩
                    · exact hb0 (hc ▸ h1 _ hb)
                    · exact h3 _ hb hc
                  have hrow : ∀ j, j < t1.size → rowW w b0 o0 j = rowW w' b0 o0 j := by
                    intro j hj
                    by_cases hc : b0 = b
                    · rw [rowW_at w, rowW_at w', hc]
                      refine (hat.row _ ?_).symm
                      rcases g.lies with ⟨_, g7, g8⟩ | ⟨_, g8, _⟩
                      · left; omega
                      · exact absurd hc.symm g8
                    · simp only [rowW]; rw [hat.other _ hc (.inr (.inr rfl))]
                  obtain ⟨c3, k3, _⟩ := rs_same ra hiq hoq (fun b' hb => hat.other _ (hbk b' hb) (.inr (.inl (h1 _ hb)))) hrow hrq
                  refine ⟨hiq, ?_, c3, k3⟩
                  simp only [ownP]
                  generalize m.fst = mf at hoq ⊢
                  unfold Md.mkp
                  split <;> exact hoq
              | succ k =>
                cases n with
                | zero =>
                  simp only [rs, Option.map_some] at hr hrq ⊢
                  simp only [inP] at hi hiq ⊢
                  simp only [ownP] at ho hoq
                  rw [rowW_add] at rb hrq ⊢
                  simp only [setP] at hset
                  cases hs2 : setP t1 m.fst x.1 p uu mu y with
                  | none => rw [hs2] at hset; cases hset
                  | some z =>
                    obtain ⟨m2, x2⟩ := z
                    rw [hs2] at hset
                    simp only [Option.some.injEq] at hset
                    obtain ⟨rfl, rfl⟩ := hset
                    obtain ⟨fold, g⟩ := rep_lens ra (fun hc => hb0 (h1 _ hc)) hi ho hr
                    have hbk : ∀ b', fb b' → b' ≠ b := by
                      intro b' hb hc
                      subst hc
                      rcases g.lies with ⟨hc, _⟩ | ⟨hc, _⟩
                      · exact hb0 (hc ▸ h2 _ hb)
                      · exact h3 _ hc hb
                    have hrow : ∀ j, j < t2.size → rowW w b0 (o0 + t1.size) j = rowW w' b0 (o0 + t1.size) j := by
                      intro j hj
                      by_cases hc : b0 = b
                      · rw [rowW_at w, rowW_at w', hc]
                        refine (hat.row _ ?_).symm
                        rcases g.lies with ⟨_, g7, g8⟩ | ⟨_, g8, _⟩
                        · right; omega
                        · exact absurd hc.symm g8
                      · simp only [rowW]; rw [hat.other _ hc (.inr (.inr rfl))]
                    obtain ⟨c3, k3, _⟩ := rs_same rb hiq hoq (fun b' hb => hat.other _ (hbk b' hb) (.inr (.inl (h2 _ hb)))) hrow hrq
                    refine ⟨hiq, ?_, c3, k3⟩
                    simp only [ownP]
                    generalize m.snd = mf at hoq ⊢
                    unfold Md.mkp
                    split <;> exact hoq
                | succ n =>
                  simp only [rs, Option.map_some] at hr hrq ⊢
                  simp only [inP] at hi hiq ⊢
                  simp only [ownP] at ho hoq
                  rw [rowW_add] at rb hr hrq ⊢
                  simp only [setP] at hset
                  cases hs2 : setP t2 m.snd x.2 (.fld n :: p) uu mu y with
                  | none => rw [hs2] at hset; cases hset
                  | some z =>
                    obtain ⟨m2, x2⟩ := z
                    rw [hs2] at hset
                    simp only [Option.some.injEq] at hset
                    obtain ⟨rfl, rfl⟩ := hset
                    have hkn' : Nat.beq k n = false := by
                      cases hq : Nat.beq k n with
                      | false => rfl
                      | true => exact absurd (Nat.eq_of_beq_eq_true hq) (by omega)
                    obtain ⟨k1, k2, k3⟩ := ihb rb (fun hc => hb0 (h2 _ hc)) hi ho hr (by simp only [pre, hkn', cond_false]) hiq hoq hrq (hat.sub (fun b hb => h2 _ hb) (.inr rfl)) hs2
                    refine ⟨k1, ?_, k3⟩
                    simp only [ownP]
                    unfold Md.mkp
                    split <;> exact k2
            subst hkn
            have hp2 : pre q p = true := by simpa only [pre, Nat.beq_refl, cond_true] using hp
            clear hp
            have hp := hp2
            clear hp2
            cases k with
            | zero =>
              simp only [rs] at hr hrq ⊢
              simp only [inP] at hi hiq ⊢
              simp only [ownP] at ho hoq
              simp only [setP] at hset
              cases hs2 : setP t1 m.fst x.1 p uu mu y with
              | none => rw [hs2] at hset; cases hset
              | some z =>
                obtain ⟨m2, x2⟩ := z
                rw [hs2] at hset
                simp only [Option.some.injEq] at hset
                obtain ⟨rfl, rfl⟩ := hset
                obtain ⟨k1, k2, k3⟩ := iha ra (fun hc => hb0 (h1 _ hc)) hi ho hr hp hiq hoq hrq (hat.sub (fun b hb => h1 _ hb) (.inr rfl)) hs2
                refine ⟨k1, ?_, k3⟩
                simp only [ownP]
                unfold Md.mkp
                split <;> exact k2
            | succ k =>
              simp only [rs, Option.map_some] at hr hrq ⊢
              simp only [inP] at hi hiq ⊢
              simp only [ownP] at ho hoq
              rw [rowW_add] at rb hr hrq ⊢
              simp only [setP] at hset
              cases hs2 : setP t2 m.snd x.2 (.fld k :: p) uu mu y with
              | none => rw [hs2] at hset; cases hset
              | some z =>
                obtain ⟨m2, x2⟩ := z
                rw [hs2] at hset
                simp only [Option.some.injEq] at hset
                obtain ⟨rfl, rfl⟩ := hset
                obtain ⟨k1, k2, k3⟩ := ihb rb (fun hc => hb0 (h2 _ hc)) hi ho hr (by simp only [pre, Nat.beq_refl, cond_true]; exact hp) hiq hoq hrq (hat.sub (fun b hb => h2 _ hb) (.inr rfl)) hs2
                refine ⟨k1, ?_, k3⟩
                simp only [ownP]
                unfold Md.mkp
                split <;> exact k2
          | _ => simp [rs] at hr
      | _ => simp [rs] at hrq
  | _ =>
    intro m x b0 o0 fp u c1 ad1 uu cc b o mu y m' x' h hb0 hi ho hr hp hiq hoq hrq hat hset
    cases q with
    | nil => simp only [rs, Option.some.injEq, Prod.mk.injEq] at hrq ⊢; obtain ⟨rfl, rfl, rfl⟩ := hrq; exact ⟨by simp [inP], by simp [ownP], _, rfl, rfl, rfl⟩
    | cons q p => simp [rs] at hrq

end Go.Trm
