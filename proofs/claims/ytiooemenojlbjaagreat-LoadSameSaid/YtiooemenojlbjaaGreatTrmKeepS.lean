import Derived.Test.YtiooemenojlbjaaGreatTrmSlot
set_option linter.unusedVariables false
set_option linter.unusedSimpArgs false
namespace Go.Trm

theorem flds_inP {w : World} : ∀ {q : List PE} {t : Ty} {x : t.I} {c : Cells} {ad : Option (Nat × Nat)} {res : Ty × Cells × Option (Nat × Nat)}, flds q = true → rs w t c ad q = some res → inP t x q := by
  intro q t
  induction t generalizing q with
  | pair a b iha ihb => intro x c ad res hq h; cases q with
    | nil => simp [inP]
    | cons e q => cases e with
      | fld n => simp only [flds] at hq; cases n with
        | zero => simp only [rs] at h; simp only [inP]; exact iha hq h
        | succ n => simp only [rs] at h; simp only [inP]; exact ihb (q := .fld n :: q) (by simpa only [flds] using hq) h
      | _ => simp [flds] at hq
  | _ => intro x c ad res hq h; cases q with
    | nil => simp [inP]
    | cons e q => cases e with
      | fld n => simp [rs] at h
      | _ => simp [flds] at hq

theorem flds_ownP {w : World} : ∀ {q : List PE} {t : Ty} {m : Md} {c : Cells} {ad : Option (Nat × Nat)} {res : Ty × Cells × Option (Nat × Nat)}, flds q = true → rs w t c ad q = some res → ownP t m q := by
  intro q t
  induction t generalizing q with
  | pair a b iha ihb => intro m c ad res hq h; cases q with
    | nil => simp [ownP]
    | cons e q => cases e with
      | fld n => simp only [flds] at hq; cases n with
        | zero => simp only [rs] at h; simp only [ownP]; exact iha hq h
        | succ n => simp only [rs] at h; simp only [ownP]; exact ihb (q := .fld n :: q) (by simpa only [flds] using hq) h
      | _ => simp [flds] at hq
  | _ => intro m c ad res hq h; cases q with
    | nil => simp [ownP]
    | cons e q => cases e with
      | fld n => simp [rs] at h
      | _ => simp [flds] at hq

theorem rs_flds {w w' : World} : ∀ {q : List PE} {t : Ty} {c c2 : Cells} {ad ad1 : Option (Nat × Nat)} {u : Ty} {c1 : Cells}, flds q = true → rs w t c ad q = some (u, c1, ad1) → ∃ c3, rs w' t c2 ad q = some (u, c3, ad1) := by
  intro q t
  induction t generalizing q with
  | pair a b iha ihb => intro c c2 ad ad1 u c1 hq h; cases q with
    | nil => simp only [rs, Option.some.injEq, Prod.mk.injEq] at h ⊢; obtain ⟨rfl, _, rfl⟩ := h; exact ⟨c2, rfl, rfl, rfl⟩
    | cons e q => cases e with
      | fld n => simp only [flds] at hq; cases n with
        | zero => simp only [rs] at h ⊢; exact iha hq h
        | succ n => simp only [rs] at h ⊢; exact ihb (q := .fld n :: q) (by simpa only [flds] using hq) h
      | _ => simp [flds] at hq
  | _ => intro c c2 ad ad1 u c1 hq h; cases q with
    | nil => simp only [rs, Option.some.injEq, Prod.mk.injEq] at h ⊢; obtain ⟨rfl, _, rfl⟩ := h; exact ⟨c2, rfl, rfl, rfl⟩
    | cons e q => cases e with
      | fld n => simp [rs] at h
      | _ => simp [flds] at hq

/-- a pointer that stays -/
theorem keepS {F : Blks} {w w' : World} {t : Ty} {m : Md} {x : t.I} {V : Value} {fp : Blks} {p q : List PE} {uu : Ty} {cc : Cells} {ad : Option (Nat × Nat)} {mu : Md} {y : uu.I} {m' : Md} {x' : t.I} {u : Ty} {c1 : Cells} {z : Nat × Nat}
    (h : rep F w t m x (cv V) fp) (hi : inP t x p) (ho : ownP t m p) (hr : rs w t (cv V) none p = some (uu, cc, ad)) (hset : setP t m x p uu mu y = some (m', x')) (hat : Chg F w w' fp uu ad)
    (hst : stays p q = true) (hrt : rootB t q = true) (hiq : inP t x q) (hoq : ownP t m q) (hrq : rs w t (cv V) none q = some (u, c1, some z)) :
    inP t x' q ∧ ownP t m' q ∧ ∃ c2, rs w' t (cv V) none q = some (u, c2, some z) := by
  cases t with
  | ptr T t =>
    cases q with
    | nil => simp [rootB] at hrt
    | cons e1 q => cases e1 with
      | der =>
        cases m with
        | o m =>
          cases x with
          | none => simp [inP] at hiq
          | some x =>
            simp only [ownP] at hoq
            simp only [inP] at hiq
            simp only [rep] at h
            obtain ⟨A, h1, a, ha, hsp, r1, r2, f, r4, r5⟩ := h
            subst ha
            cases p with
            | nil => simp [stays] at hst
            | cons e2 p => cases e2 with
              | der =>
                simp only [ownP] at ho
                simp only [inP] at hi
                simp only [rs, h1] at hr hrq ⊢
                simp only [setP] at hset
                cases hs2 : setP t m x p uu mu y with
                | none => rw [hs2] at hset; cases hset
                | some zz =>
                  obtain ⟨m2, x2⟩ := zz
                  rw [hs2] at hset
                  simp only [Option.some.injEq] at hset
                  obtain ⟨rfl, rfl⟩ := hset
                  simp only [inP, ownP]
                  have had := rs_isSome hr
                  cases ad with
                  | none => cases had
                  | some bo =>
                    obtain ⟨b, o⟩ := bo
                    simp only [stays, pre, Bool.true_and, shal, List.isEmpty_cons, Bool.not_false, Bool.or_eq_true] at hst
                    rcases hst with hst | hst
                    · exact keepM r5 (fun hc => (r4 _ hc).2 rfl) hi ho hr hst hiq hoq hrq (At.sub hat (fun b hb => (r4 _ hb).1) (.inl r1)) hs2
                    · exact ⟨flds_inP hst hrq, flds_ownP hst hrq, rs_flds hst hrq⟩
              | _ => simp [rs] at hr
        | _ => simp [ownP] at hoq
      | _ => simp [rootB] at hrt
  | sl e t =>
    cases q with
    | nil => simp [rootB] at hrt
    | cons e1 q => cases e1 with
      | idx k =>
        cases m with
        | o m =>
          simp only [ownP] at hoq
          simp only [inP] at hiq
          simp only [stays, shal, Bool.or_false] at hst
          cases p with
          | nil => simp at hst
          | cons e2 p => cases e2 with
            | idx i =>
              simp only [pre, List.isEmpty_cons, Bool.not_false, Bool.true_and] at hst
              simp only [ownP] at ho
              simp only [inP] at hi
              simp only [rep] at h
              obtain ⟨A, cap, h1, h2, h3, h4, r⟩ := h
              cases A with
              | none => have := h4 rfl; omega
              | some a =>
                obtain ⟨hsp, r1, r2, fs, r3, r4, r5⟩ := r a rfl
                simp only [rs, h1] at hr hrq ⊢
                have had := rs_isSome hr
                cases ad with
                | none => cases had
                | some bo =>
                  obtain ⟨b, o⟩ := bo
                  have hat : At F fp w w' b b o uu.size := hat
                  simp only [setP] at hset
                  cases hs2 : setP t m (List.getD (x : List t.I) i.toNat t.dflt) p uu mu y with
                  | none => rw [hs2] at hset; cases hset
                  | some zz =>
                    obtain ⟨m2, x2⟩ := zz
                    rw [hs2] at hset
                    simp only at hset
                    split at hset
                    · rename_i he
                      obtain rfl := Md.eqb_eq he
                      simp only [Option.some.injEq] at hset
                      obtain ⟨rfl, rfl⟩ := hset
                      have hne : ∀ i b, fs i b → b ≠ a.block := fun i b hb => (r4 i b hb).2
                      obtain ⟨fold, g⟩ := rep_lens (r5 _ hi.1) (fun hc => hne _ _ hc rfl) hi.2 ho hr
                      simp only [inP, ownP]
                      by_cases e1 : k.toNat = i.toNat
                      · rw [e1] at hiq hrq ⊢
                        obtain ⟨k1, k2, k3⟩ := keepM (r5 _ hi.1) (fun hc => hne _ _ hc rfl) hi.2 ho hr hst hiq.2 hoq hrq (At.sub hat (fun b hb => (r4 _ _ hb).1) (.inl r1)) hs2
                        refine ⟨⟨Nat.lt_of_lt_of_eq hi.1 (List.length_set (as := (x : List t.I))).symm, ?_⟩, k2, k3⟩
                        rw [getD_set_self (l := (x : List t.I)) hi.1]; exact k1
                      · have hbk : ∀ b', fs k.toNat b' → b' ≠ b := by
                          intro b' hb hc
                          subst hc
                          rcases g.lies with ⟨hc, _⟩ | ⟨hc, _⟩
                          · exact (r4 _ _ hb).2 hc
                          · exact r3.disj _ _ e1 _ hb hc
                        have hrow : ∀ j, j < t.size → rowW w a.block (a.off + k.toNat * t.size) j = rowW w' a.block (a.off + k.toNat * t.size) j := by
                          intro j hj
                          by_cases hc : a.block = b
                          · rw [rowW_at w, rowW_at w', hc]
                            refine (hat.row _ ?_).symm
                            rcases g.lies with ⟨_, g7, g8⟩ | ⟨_, g8, _⟩
                            · rcases Nat.lt_or_gt_of_ne e1 with hlt | hlt
                              · left
                                have : k.toNat * t.size + t.size ≤ i.toNat * t.size := by rw [← Nat.succ_mul]; exact Nat.mul_le_mul_right _ hlt
                                omega
                              · right
                                have : i.toNat * t.size + t.size ≤ k.toNat * t.size := by rw [← Nat.succ_mul]; exact Nat.mul_le_mul_right _ hlt
                                omega
                            · exact absurd hc.symm g8
                          · simp only [rowW]; rw [hat.other _ hc (.inr (.inl r1))]
                        obtain ⟨c3, k3, _⟩ := rs_same (r5 _ hiq.1) hiq.2 hoq (fun b' hb => hat.other _ (hbk b' hb) (.inr (.inl (r4 _ _ hb).1))) hrow hrq
                        refine ⟨⟨Nat.lt_of_lt_of_eq hiq.1 (List.length_set (as := (x : List t.I))).symm, ?_⟩, hoq, c3, k3⟩
                        rw [getD_set_other (l := (x : List t.I)) e1]; exact hiq.2
                    · cases hset
            | _ => simp [rs] at hr
        | _ => simp [ownP] at hoq
      | _ => simp [rootB] at hrt
  | _ => cases q <;> simp [rootB] at hrt

end Go.Trm
