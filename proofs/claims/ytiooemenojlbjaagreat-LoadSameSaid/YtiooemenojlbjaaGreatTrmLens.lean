import Derived.Test.YtiooemenojlbjaaGreatTrmRep
set_option linter.unusedVariables false
set_option linter.unusedSimpArgs false
namespace Go.Trm

/-! ## Places -/

/-- where a place lies: its shape, its cells, its block and offset (none: in a slot) -/
def rs (w : World) : (t : Ty) → Cells → Option (Nat × Nat) → List PE → Option (Ty × Cells × Option (Nat × Nat))
  | t, c, ad, [] => some (t, c, ad)
  | .pair a _b, c, ad, .fld 0 :: p => rs w a c ad p
  | .pair a b, c, ad, .fld (n + 1) :: p => rs w b (fun j => c (a.size + j)) (ad.map fun q => (q.1, q.2 + a.size)) (.fld n :: p)
  | .ptr _ t, c, _, .der :: p => match c 0 with
    | .pointer (some a) => rs w t (rowW w a.block a.off) (some (a.block, a.off)) p
    | _ => none
  | .sl _ t, c, _, .idx i :: p => match c 0 with
    | .slice (some a) _ _ => rs w t (rowW w a.block (a.off + i.toNat * t.size)) (some (a.block, a.off + i.toNat * t.size)) p
    | _ => none
  | .arr _ t, c, ad, .idx i :: p => rs w t (fun j => c (i.toNat * t.size + j)) (ad.map fun q => (q.1, q.2 + i.toNat * t.size)) p
  | _, _, _, _ => none

/-- all its indexes lie within -/
def inP : (t : Ty) → t.I → List PE → Prop
  | _, _, [] => True
  | .pair a _b, x, .fld 0 :: p => inP a x.1 p
  | .pair _a b, x, .fld (n + 1) :: p => inP b x.2 (.fld n :: p)
  | .ptr _ t, x, .der :: p => match (x : Option t.I) with
    | some c => inP t c p
    | none => False
  | .sl _ t, x, .idx i :: p => i.toNat < List.length (x : List t.I) ∧ inP t (List.getD (x : List t.I) i.toNat t.dflt) p
  | .arr _ t, x, .idx i :: p => i.toNat < List.length (x : List t.I) ∧ inP t (List.getD (x : List t.I) i.toNat t.dflt) p
  | _, _, _ => False

theorem rowW_add (w : World) (b o k : Nat) : (fun j => rowW w b o (k + j)) = rowW w b (o + k) := by
  funext j
  simp only [rowW]
  split
  · simp only [rowOf, Nat.add_assoc]
  · rfl

theorem rowW_at (w : World) (b o j : Nat) : rowW w b o j = rowW w b 0 (o + j) := by
  simp only [rowW]
  split
  · simp only [rowOf, Nat.zero_add]
  · rfl

/-- in memory the cells are those that lie there -/
theorem rs_row {w : World} : ∀ {p : List PE} {t : Ty} {c : Cells} {ad : Option (Nat × Nat)} {u : Ty} {c' : Cells} {b o : Nat},
    (∀ q, ad = some q → c = rowW w q.1 q.2) → rs w t c ad p = some (u, c', some (b, o)) → c' = rowW w b o := by
  intro p t
  induction t generalizing p with
  | int k => intro c ad u c' b o h hr; cases p with
    | nil => simp only [rs, Option.some.injEq, Prod.mk.injEq] at hr; obtain ⟨_, rfl, h'⟩ := hr; exact h _ h'
    | cons q p => cases q <;> simp [rs] at hr
  | bool => intro c ad u c' b o h hr; cases p with
    | nil => simp only [rs, Option.some.injEq, Prod.mk.injEq] at hr; obtain ⟨_, rfl, h'⟩ := hr; exact h _ h'
    | cons q p => cases q <;> simp [rs] at hr
  | str => intro c ad u c' b o h hr; cases p with
    | nil => simp only [rs, Option.some.injEq, Prod.mk.injEq] at hr; obtain ⟨_, rfl, h'⟩ := hr; exact h _ h'
    | cons q p => cases q <;> simp [rs] at hr
  | unit => intro c ad u c' b o h hr; cases p with
    | nil => simp only [rs, Option.some.injEq, Prod.mk.injEq] at hr; obtain ⟨_, rfl, h'⟩ := hr; exact h _ h'
    | cons q p => cases q <;> simp [rs] at hr
  | sl e t ih => intro c ad u c' b o h hr; cases p with
    | nil => simp only [rs, Option.some.injEq, Prod.mk.injEq] at hr; obtain ⟨_, rfl, h'⟩ := hr; exact h _ h'
    | cons q p => cases q with
      | idx i => simp only [rs] at hr; split at hr
                 · exact ih (fun q hq => by injection hq with hq; subst hq; rfl) hr
                 · cases hr
      | _ => simp [rs] at hr
  | ptr e t ih => intro c ad u c' b o h hr; cases p with
    | nil => simp only [rs, Option.some.injEq, Prod.mk.injEq] at hr; obtain ⟨_, rfl, h'⟩ := hr; exact h _ h'
    | cons q p => cases q with
      | der => simp only [rs] at hr; split at hr
               · exact ih (fun q hq => by injection hq with hq; subst hq; rfl) hr
               · cases hr
      | _ => simp [rs] at hr
  | arr n t ih => intro c ad u c' b o h hr; cases p with
    | nil => simp only [rs, Option.some.injEq, Prod.mk.injEq] at hr; obtain ⟨_, rfl, h'⟩ := hr; exact h _ h'
    | cons q p => cases q with
      | idx i =>
        simp only [rs] at hr
        refine ih (fun q hq => ?_) hr
        cases ad with
        | none => cases hq
        | some q' => injection hq with hq; subst hq; rw [h _ rfl]; exact rowW_add ..
      | _ => simp [rs] at hr
  | pair x y ihx ihy => intro c ad u c' b o h hr; cases p with
    | nil => simp only [rs, Option.some.injEq, Prod.mk.injEq] at hr; obtain ⟨_, rfl, h'⟩ := hr; exact h _ h'
    | cons q p => cases q with
      | fld n => cases n with
        | zero => simp only [rs] at hr; exact ihx h hr
        | succ n =>
          simp only [rs] at hr
          refine ihy (fun q hq => ?_) hr
          cases ad with
          | none => cases hq
          | some q' => injection hq with hq; subst hq; rw [h _ rfl]; exact rowW_add ..
      | _ => simp [rs] at hr

theorem getP_j : ∀ {p : List PE} {t : Ty} {x : t.I} {u : Ty} {mu : Md} {y : u.I}, getP t .j x p = some ⟨u, mu, y⟩ → mu = .j := by
  intro p t
  induction t generalizing p with
  | int k => intro x u mu y h; cases p with
    | nil => simp only [getP, Option.some.injEq] at h; cases h; rfl
    | cons q p => cases q <;> simp [getP] at h
  | bool => intro x u mu y h; cases p with
    | nil => simp only [getP, Option.some.injEq] at h; cases h; rfl
    | cons q p => cases q <;> simp [getP] at h
  | str => intro x u mu y h; cases p with
    | nil => simp only [getP, Option.some.injEq] at h; cases h; rfl
    | cons q p => cases q <;> simp [getP] at h
  | unit => intro x u mu y h; cases p with
    | nil => simp only [getP, Option.some.injEq] at h; cases h; rfl
    | cons q p => cases q <;> simp [getP] at h
  | sl e t ih => intro x u mu y h; cases p with
    | nil => simp only [getP, Option.some.injEq] at h; cases h; rfl
    | cons q p => cases q with
      | idx i => simp only [getP] at h; exact ih h
      | _ => simp [getP] at h
  | arr e t ih => intro x u mu y h; cases p with
    | nil => simp only [getP, Option.some.injEq] at h; cases h; rfl
    | cons q p => cases q with
      | idx i => simp only [getP] at h; exact ih h
      | _ => simp [getP] at h
  | ptr e t ih => intro x u mu y h; cases p with
    | nil => simp only [getP, Option.some.injEq] at h; cases h; rfl
    | cons q p => cases q with
      | der => simp only [getP] at h; cases x with
        | none => simp at h
        | some c => exact ih h
      | _ => simp [getP] at h
  | pair a b iha ihb => intro x u mu y h; cases p with
    | nil => simp only [getP, Option.some.injEq] at h; cases h; rfl
    | cons q p => cases q with
      | fld n => cases n with
        | zero => simp only [getP] at h; exact iha h
        | succ n => simp only [getP] at h; exact ihb h
      | _ => simp [getP] at h

/-- what is read at a place -/
theorem rep_get {F : Blks} {w : World} : ∀ {p : List PE} {t : Ty} {m : Md} {x : t.I} {c : Cells} {ad : Option (Nat × Nat)} {fp : Blks} {u : Ty} {mu : Md} {y : u.I},
    rep F w t m x c fp → getP t m x p = some ⟨u, mu, y⟩ → inP t x p → mu ≠ .j → ∃ c' ad' fp', rs w t c ad p = some (u, c', ad') ∧ rep F w u mu y c' fp' ∧ (∀ b, fp' b → fp b) := by
  intro p t
  induction t generalizing p with
  | int k => intro m x c ad fp u mu y h hg hi hj; cases p with
    | nil => simp only [getP, Option.some.injEq] at hg; cases hg; exact ⟨c, ad, fp, rfl, h, fun _ hb => hb⟩
    | cons q p => cases q <;> simp [getP] at hg
  | bool => intro m x c ad fp u mu y h hg hi hj; cases p with
    | nil => simp only [getP, Option.some.injEq] at hg; cases hg; exact ⟨c, ad, fp, rfl, h, fun _ hb => hb⟩
    | cons q p => cases q <;> simp [getP] at hg
  | str => intro m x c ad fp u mu y h hg hi hj; cases p with
    | nil => simp only [getP, Option.some.injEq] at hg; cases hg; exact ⟨c, ad, fp, rfl, h, fun _ hb => hb⟩
    | cons q p => cases q <;> simp [getP] at hg
  | unit => intro m x c ad fp u mu y h hg hi hj; cases p with
    | nil => simp only [getP, Option.some.injEq] at hg; cases hg; exact ⟨c, ad, fp, rfl, h, fun _ hb => hb⟩
    | cons q p => cases q <;> simp [getP] at hg
  | sl e t ih => intro m x c ad fp u mu y h hg hi hj; cases p with
    | nil => simp only [getP, Option.some.injEq] at hg; cases hg; exact ⟨c, ad, fp, rfl, h, fun _ hb => hb⟩
    | cons q p => cases q with
      | idx i =>
        simp only [getP] at hg
        simp only [inP] at hi
        simp only [rs]
        cases m with
        | j => exact absurd (getP_j hg) hj
        | s =>
          simp only [rep] at h
          obtain ⟨A, cap, h1, h2, h3, h4, r⟩ := h
          cases A with
          | none => have := h4 rfl; omega
          | some a =>
            rw [h1]
            obtain ⟨_, _, r⟩ := r a rfl
            obtain ⟨c', ad', fp', k1, k2, k3⟩ := ih (ad := some (a.block, a.off + i.toNat * t.size)) (r _ hi.1) hg hi.2 hj
            exact ⟨c', ad', fp', k1, k2, fun b hb => (k3 b hb).elim⟩
        | o m =>
          simp only [rep] at h
          obtain ⟨A, cap, h1, h2, h3, h4, r⟩ := h
          cases A with
          | none => have := h4 rfl; omega
          | some a =>
            rw [h1]
            obtain ⟨_, _, _, fs, _, k4, r⟩ := r a rfl
            obtain ⟨c', ad', fp', k1, k2, k3⟩ := ih (ad := some (a.block, a.off + i.toNat * t.size)) (r _ hi.1) hg hi.2 hj
            exact ⟨c', ad', fp', k1, k2, fun b hb => (k4 _ _ (k3 b hb)).1⟩
        | p _ _ =>
          simp only [rep] at h
          obtain ⟨A, cap, h1, h2, h3, h4, r⟩ := h
          cases A with
          | none => have := h4 rfl; omega
          | some a => exact ((r a rfl).2).elim
      | _ => simp [getP] at hg
  | arr n t ih => intro m x c ad fp u mu y h hg hi hj; cases p with
    | nil => simp only [getP, Option.some.injEq] at hg; cases hg; exact ⟨c, ad, fp, rfl, h, fun _ hb => hb⟩
    | cons q p => cases q with
      | idx i =>
        simp only [getP] at hg
        simp only [inP] at hi
        simp only [rs]
        have key : m ≠ .j → ∃ fs : Nat → Blks, (∀ i b, fs i b → fp b) ∧ rep F w t m.el (List.getD (x : List t.I) i.toNat t.dflt) (fun j => c (i.toNat * t.size + j)) (fs i.toNat) := by
          intro hm
          cases m with
          | j => exact absurd rfl hm
          | _ => simp only [rep] at h; obtain ⟨hn, fs, _, h2, r⟩ := h; exact ⟨fs, h2, r _ (hn ▸ hi.1)⟩
        obtain ⟨fs, h2, r⟩ := key (fun hm => by subst hm; exact hj (getP_j hg))
        obtain ⟨c', ad', fp', k1, k2, k3⟩ := ih (ad := ad.map fun q => (q.1, q.2 + i.toNat * t.size)) r hg hi.2 hj
        exact ⟨c', ad', fp', k1, k2, fun b hb => h2 _ _ (k3 b hb)⟩
      | _ => simp [getP] at hg
  | ptr T t ih => intro m x c ad fp u mu y h hg hi hj; cases p with
    | nil => simp only [getP, Option.some.injEq] at hg; cases hg; exact ⟨c, ad, fp, rfl, h, fun _ hb => hb⟩
    | cons q p => cases q with
      | der =>
        cases x with
        | none => simp [getP] at hg
        | some x =>
          simp only [getP] at hg
          simp only [inP] at hi
          simp only [rs]
          cases m with
          | j => exact absurd (getP_j hg) hj
          | s =>
            simp only [rep] at h
            obtain ⟨A, h1, a, ha, _, _, _, r⟩ := h
            subst ha
            rw [h1]
            obtain ⟨c', ad', fp', k1, k2, k3⟩ := ih (ad := some (a.block, a.off)) r hg hi hj
            exact ⟨c', ad', fp', k1, k2, fun b hb => (k3 b hb).elim⟩
          | o m =>
            simp only [rep] at h
            obtain ⟨A, h1, a, ha, _, _, _, f, k4, r⟩ := h
            subst ha
            rw [h1]
            obtain ⟨c', ad', fp', k1, k2, k3⟩ := ih (ad := some (a.block, a.off)) r hg hi hj
            exact ⟨c', ad', fp', k1, k2, fun b hb => (k4 _ (k3 b hb)).1⟩
          | p _ _ =>
            simp only [rep] at h
            obtain ⟨A, h1, a, ha, _, r⟩ := h
            exact r.elim
      | _ => simp [getP] at hg
  | pair a b iha ihb => intro m x c ad fp u mu y h hg hi hj; cases p with
    | nil => simp only [getP, Option.some.injEq] at hg; cases hg; exact ⟨c, ad, fp, rfl, h, fun _ hb => hb⟩
    | cons q p => cases q with
      | fld n =>
        have key : m ≠ .j → ∃ fa fb : Blks, (∀ i, fa i → fp i) ∧ (∀ i, fb i → fp i) ∧ rep F w a m.fst x.1 c fa ∧ rep F w b m.snd x.2 (fun j => c (a.size + j)) fb := by
          intro hm
          cases m with
          | j => exact absurd rfl hm
          | _ => simp only [rep] at h; obtain ⟨fa, fb, h1, h2, _, r⟩ := h; exact ⟨fa, fb, h1, h2, r⟩
        cases n with
        | zero =>
          simp only [getP] at hg
          simp only [inP] at hi
          simp only [rs]
          obtain ⟨fa, fb, h1, h2, r, _⟩ := key (fun hm => by subst hm; exact hj (getP_j hg))
          obtain ⟨c', ad', fp', k1, k2, k3⟩ := iha (ad := ad) r hg hi hj
          exact ⟨c', ad', fp', k1, k2, fun b hb => h1 _ (k3 b hb)⟩
        | succ n =>
          simp only [getP] at hg
          simp only [inP] at hi
          simp only [rs]
          obtain ⟨fa, fb, h1, h2, _, r⟩ := key (fun hm => by subst hm; exact hj (getP_j hg))
          obtain ⟨c', ad', fp', k1, k2, k3⟩ := ihb (ad := ad.map fun q => (q.1, q.2 + a.size)) r hg hi hj
          exact ⟨c', ad', fp', k1, k2, fun b hb => h2 _ (k3 b hb)⟩
      | _ => simp [getP] at hg

theorem getD_set_self {β : Type} {l : List β} {i : Nat} {y d : β} (h : i < l.length) : (l.set i y).getD i d = y := by
  simp [List.getD, h]
theorem getD_set_other {β : Type} {l : List β} {i k : Nat} {y d : β} (h : k ≠ i) : (l.set i y).getD k d = l.getD k d := by
  simp only [List.getD, List.getElem?_set]
  rw [if_neg (Ne.symm h)]

/-- how a world may have changed at a place -/
structure At (F fp : Blks) (w w' : World) (b0 b o n : Nat) : Prop where
  other : ∀ b', b' ≠ b → (F b' ∨ fp b' ∨ b' = b0) → Same w w' b'
  row : ∀ j, (j < o ∨ o + n ≤ j) → rowW w' b 0 j = rowW w b 0 j
  keep : ∀ n wr, holdsW w b n wr → holdsW w' b n wr
  notF : ¬ F b

theorem At.sub {F fp fp' : Blks} {w w' : World} {b0 b1 b o n : Nat} (h : At F fp w w' b0 b o n) (hs : ∀ b, fp' b → fp b) (h1 : fp b1 ∨ b1 = b0) : At F fp' w w' b1 b o n :=
  ⟨fun b' hb hc => h.other b' hb (by rcases hc with hc | hc | hc
                                     · exact .inl hc
                                     · exact .inr (.inl (hs _ hc))
                                     · subst hc; exact .inr h1), h.row, h.keep, h.notF⟩

theorem castI_some {t t' : Ty} {x : t.I} {y : t'.I} (h : castI t t' x = some y) : ∃ e : t = t', e ▸ x = y := by
  unfold castI at h
  split at h
  · rename_i hb
    exact ⟨Ty.eqb_eq hb, by injection h⟩
  · cases h

theorem rowW_off (w : World) (b o k j : Nat) : rowW w b o (k + j) = rowW w b (o + k) j := by rw [rowW_at, rowW_at w b (o + k)]; congr 1; omega

theorem rep_mkp {F : Blks} {w : World} {a b : Ty} {ma mb : Md} {x : a.I} {y : b.I} {c : Cells} {fp fa fb : Blks} (h1 : ∀ i, fa i → fp i) (h2 : ∀ i, fb i → fp i) (h3 : ∀ i, fa i → ¬ fb i)
    (ra : rep F w a ma x c fa) (rb : rep F w b mb y (fun j => c (a.size + j)) fb) : rep F w (.pair a b) (.mkp ma mb) (x, y) c fp := by
  unfold Md.mkp
  split
  · simp only [rep, Md.fst, Md.snd]; exact ⟨fa, fb, h1, h2, h3, ra, rb⟩
  · simp only [rep, Md.fst, Md.snd]; exact ⟨fa, fb, h1, h2, h3, ra, rb⟩

/-- the two parts of a pair -/
theorem rep_pair {F : Blks} {w : World} {a b : Ty} {m : Md} {x : a.I × b.I} {c : Cells} {fp : Blks} (h : rep F w (.pair a b) m x c fp) :
    ∃ fa fb : Blks, (∀ i, fa i → fp i) ∧ (∀ i, fb i → fp i) ∧ (∀ i, fa i → ¬ fb i) ∧ rep F w a m.fst x.1 c fa ∧ rep F w b m.snd x.2 (fun j => c (a.size + j)) fb := by
  cases m with
  | j => exact ⟨fun _ => False, fun _ => False, fun _ h => h.elim, fun _ h => h.elim, fun _ h => h.elim, rep_j, rep_j⟩
  | _ => simpa only [rep] using h

theorem Md.eqb_eq : ∀ {a b : Md}, a.eqb b = true → a = b
  | .s, b, h => by cases b <;> first | rfl | simp [Md.eqb] at h
  | .j, b, h => by cases b <;> first | rfl | simp [Md.eqb] at h
  | .o a, b, h => by cases b <;> simp only [Md.eqb, Bool.false_eq_true] at h; rw [Md.eqb_eq h]
  | .p a c, b, h => by
    cases b <;> simp only [Md.eqb, Bool.false_eq_true, Bool.and_eq_true] at h
    rw [Md.eqb_eq h.1, Md.eqb_eq h.2]

/-- all that the way goes through is its own -/
def ownP : Ty → Md → List PE → Prop
  | _, _, [] => True
  | .pair a _b, m, .fld 0 :: p => ownP a m.fst p
  | .pair _a b, m, .fld (n + 1) :: p => ownP b m.snd (.fld n :: p)
  | .ptr _ t, .o m, .der :: p => ownP t m p
  | .sl _ t, .o m, .idx _ :: p => ownP t m p
  | .arr _ t, m, .idx _ :: p => m.isJ = false ∧ ownP t m.el p
  | _, _, _ => False

theorem setP_own : ∀ {p : List PE} {t : Ty} {m : Md} {x : t.I} {u : Ty} {mu : Md} {y : u.I} {z : Md × t.I}, setP t m x p u mu y = some z → ownP t m p := by
  intro p t
  induction t generalizing p with
  | sl e t ih => intro m x u mu y z h; cases p with
    | nil => simp only [ownP]
    | cons q p => cases q with
      | idx i => cases m with
        | o m => simp only [setP] at h; split at h
                 · rename_i h1; simp only [ownP]; exact ih h1
                 · cases h
        | _ => simp [setP] at h
      | _ => simp [setP] at h
  | ptr e t ih => intro m x u mu y z h; cases p with
    | nil => simp only [ownP]
    | cons q p => cases q with
      | der => cases m with
        | o m =>
          cases x with
          | none => simp [setP] at h
          | some c => simp only [setP] at h; split at h
                      · rename_i h1; simp only [ownP]; exact ih h1
                      · cases h
        | _ => simp [setP] at h
      | _ => simp [setP] at h
  | arr e t ih => intro m x u mu y z h; cases p with
    | nil => simp only [ownP]
    | cons q p => cases q with
      | idx i => simp only [setP] at h; split at h
                 · rename_i h0 h1; simp only [ownP]; exact ⟨h0, ih h1⟩
                 · cases h
      | _ => simp [setP] at h
  | pair a b iha ihb => intro m x u mu y z h; cases p with
    | nil => simp only [ownP]
    | cons q p => cases q with
      | fld n => cases n with
        | zero => simp only [setP] at h; split at h
                  · rename_i h1; simp only [ownP]; exact iha h1
                  · cases h
        | succ n => simp only [setP] at h; split at h
                    · rename_i h1; simp only [ownP]; exact ihb h1
                    · cases h
      | _ => simp [setP] at h
  | _ => intro m x u mu y z h; cases p with
    | nil => simp only [ownP]
    | cons q p => simp [setP] at h

/-- what can be said of a place, and of what becomes of the whole if something else is put there -/
structure Lens (F : Blks) (w : World) (t : Ty) (m : Md) (x : t.I) (b0 o0 : Nat) (fp : Blks) (p : List PE) (u : Ty) (b o : Nat) (fold : Blks) : Prop where
  sub : ∀ b, fold b → fp b
  nb : ¬ fold b
  old : ∃ mo yo, getP t m x p = some ⟨u, mo, yo⟩ ∧ rep F w u mo yo (rowW w b o) fold
  lies : (b = b0 ∧ o0 ≤ o ∧ o + u.size ≤ o0 + t.size) ∨ (fp b ∧ b ≠ b0 ∧ holdsW w b (o + u.size) true)
  new : ∀ mu y m' x' (F' : Blks) w' (fq : Blks), setP t m x p u mu y = some (m', x') → (∀ b, F b → F' b) → At F fp w w' b0 b o u.size → (∀ b', fq b' → ¬ (fp b' ∧ ¬ fold b') ∧ b' ≠ b ∧ b' ≠ b0) →
        rep F' w' u mu y (rowW w' b o) fq → rep F' w' t m' x' (rowW w' b0 o0) (fun b' => (fp b' ∧ ¬ fold b') ∨ fq b')

theorem lens_nil {F : Blks} {w : World} {t : Ty} {m : Md} {x : t.I} {b0 o0 : Nat} {fp : Blks} {u : Ty} {c' : Cells} {b o : Nat}
    (h : rep F w t m x (rowW w b0 o0) fp) (hb0 : ¬ fp b0) (hr : some (t, rowW w b0 o0, some (b0, o0)) = some (u, c', some (b, o))) : ∃ fold, Lens F w t m x b0 o0 fp [] u b o fold := by
  simp only [Option.some.injEq, Prod.mk.injEq] at hr
  obtain ⟨rfl, _, rfl, rfl⟩ := hr
  refine ⟨fp, fun _ hb => hb, hb0, ⟨m, x, by simp [getP], h⟩, .inl ⟨rfl, Nat.le_refl _, Nat.le_refl _⟩, ?_⟩
  intro mu y m' x' F' w' fq hs hF hat hq hrep
  simp only [setP] at hs
  split at hs
  · rename_i y' hc
    obtain ⟨e, he⟩ := castI_some hc
    simp only [Option.some.injEq, Prod.mk.injEq] at hs
    obtain ⟨rfl, rfl⟩ := hs
    subst he
    exact rep_fp (fun b hb => .inr hb) hrep
  · cases hs

theorem rep_lens {F : Blks} {w : World} : ∀ {p : List PE} {t : Ty} {m : Md} {x : t.I} {b0 o0 : Nat} {fp : Blks} {u : Ty} {c' : Cells} {b o : Nat},
    rep F w t m x (rowW w b0 o0) fp → ¬ fp b0 → inP t x p → ownP t m p → rs w t (rowW w b0 o0) (some (b0, o0)) p = some (u, c', some (b, o)) →
    ∃ fold, Lens F w t m x b0 o0 fp p u b o fold := by
  intro p t
  induction t generalizing p with
  | sl e t ih =>
    intro m (x : List t.I) b0 o0 fp u c' b o h hb0 hi ho hr
    cases p with
    | nil => simp only [rs] at hr; exact lens_nil h hb0 hr
    | cons q p => cases q with
      | idx i =>
        simp only [rs] at hr
        simp only [inP] at hi
        cases m with
        | o m =>
          simp only [ownP] at ho
          simp only [rep] at h
          obtain ⟨A, cap, h1, h2, h3, h4, r⟩ := h
          cases A with
          | none => have := h4 rfl; omega
          | some a =>
            obtain ⟨hsp, r1, r2, fs, r3, r4, r5⟩ := r a rfl
            rw [h1] at hr
            simp only at hr
            have hne : ∀ i b, fs i b → b ≠ a.block := fun i b hb => (r4 i b hb).2
            obtain ⟨fold, g⟩ := ih (r5 _ hi.1) (fun hc => hne _ _ hc rfl) hi.2 ho hr
            have hsz : i.toNat * t.size + t.size ≤ cap * t.size := by
              rw [← Nat.succ_mul]; exact Nat.mul_le_mul_right _ (by omega)
            have hob : b ≠ b0 := by
              rcases g.lies with ⟨rfl, _⟩ | ⟨g7, _⟩
              · exact fun hc => hb0 (hc ▸ r1)
              · exact fun hc => hb0 (hc ▸ (r4 _ _ g7).1)
            refine ⟨fold, fun b hb => (r4 _ _ (g.sub b hb)).1, g.nb, ?_, .inr ?_, ?_⟩
            · obtain ⟨mo, yo, g1, g2⟩ := g.old; exact ⟨mo, yo, by simp only [getP]; exact g1, g2⟩
            · rcases g.lies with ⟨rfl, g7, g8⟩ | ⟨g7, g8, g9⟩
              · refine ⟨r1, hob, ?_⟩
                obtain ⟨cs, el, fz, k1, k2, k3⟩ := r2
                exact ⟨cs, el, fz, k1, by omega, k3⟩
              · exact ⟨(r4 _ _ g7).1, hob, g9⟩
            · intro mu y m' x' F' w' fq hs' hF hat hq hrep
              simp only [setP] at hs'
              cases hs2 : setP t m (List.getD (x : List t.I) i.toNat t.dflt) p u mu y with
              | none => rw [hs2] at hs'; cases hs'
              | some z =>
                obtain ⟨m2, x2⟩ := z
                rw [hs2] at hs'
                simp only at hs'
                split at hs'
                · rename_i he
                  obtain rfl := Md.eqb_eq he
                  simp only [Option.some.injEq] at hs'
                  obtain ⟨rfl, rfl⟩ := hs'
                  have hnf : ¬ fold a.block := fun hc => hne _ _ (g.sub _ hc) rfl
                  have hqa : ∀ b', fq b' → b' ≠ a.block := fun b' hb hc => (hq b' hb).1 ⟨hc ▸ r1, hc ▸ hnf⟩
                  have hnew := g.new mu y m2 x2 F' w' fq hs2 hF (hat.sub (fun b hb => (r4 _ _ hb).1) (.inl r1))
                    (fun b' hb => ⟨fun hc => (hq b' hb).1 ⟨(r4 _ _ hc.1).1, hc.2⟩, (hq b' hb).2.1, hqa b' hb⟩) hrep
                  have hb0s : rowW w' b0 o0 0 = rowW w b0 o0 0 := by
                    simp only [rowW]; rw [hat.other b0 (Ne.symm hob) (.inr (.inr rfl))]
                  have hkeep : holdsW w' a.block (a.off + cap * t.size) true := by
                    by_cases hc : a.block = b
                    · exact hc ▸ hat.keep _ _ (hc ▸ r2)
                    · exact (holds_same (hat.other _ hc (.inr (.inl r1)))).2 r2
                  simp only [rep]
                  refine ⟨some a, cap, ?_, ?_, h3, (fun hc => nomatch hc), ?_⟩
                  · rw [hb0s, h1]; exact congrArg (fun n => Value.slice (some a) n cap) (List.length_set (as := (x : List t.I))).symm
                  · exact Nat.le_trans (Nat.le_of_eq (List.length_set (as := (x : List t.I)))) h2
                  · rintro a' ⟨⟩
                    refine ⟨hsp, .inl ⟨r1, hnf⟩, hkeep, fun k b' => if k = i.toNat then (fs k b' ∧ ¬ fold b') ∨ fq b' else fs k b', ⟨?_⟩, ?_, ?_⟩
                    · intro k k' hkk b' hb1 hb2
                      by_cases e1 : k = i.toNat <;> by_cases e2 : k' = i.toNat <;> simp only [e1, e2, if_true, if_false] at hb1 hb2
                      · exact hkk (e1.trans e2.symm)
                      · rcases hb1 with hb1 | hb1
                        · exact r3.disj _ _ (fun hc => e2 hc.symm) _ hb1.1 hb2
                        · exact (hq b' hb1).1 ⟨(r4 _ _ hb2).1, fun hc => r3.disj _ _ e2 _ hb2 (g.sub _ hc)⟩
                      · rcases hb2 with hb2 | hb2
                        · exact r3.disj _ _ e1 _ hb1 hb2.1
                        · exact (hq b' hb2).1 ⟨(r4 _ _ hb1).1, fun hc => r3.disj _ _ e1 _ hb1 (g.sub _ hc)⟩
                      · exact r3.disj _ _ hkk _ hb1 hb2
                    · intro k b' hb
                      by_cases e1 : k = i.toNat <;> simp only [e1, if_true, if_false] at hb
                      · rcases hb with hb | hb
                        · exact ⟨.inl ⟨(r4 _ _ hb.1).1, hb.2⟩, (r4 _ _ hb.1).2⟩
                        · exact ⟨.inr hb, hqa b' hb⟩
                      · exact ⟨.inl ⟨(r4 _ _ hb).1, fun hc => r3.disj _ _ e1 _ hb (g.sub _ hc)⟩, (r4 _ _ hb).2⟩
                    · intro k hk
                      simp only [List.length_set] at hk
                      by_cases e1 : k = i.toNat
                      · simp only [e1, if_true]
                        rw [getD_set_self hi.1]
                        exact hnew
                      · simp only [e1, if_false]
                        rw [getD_set_other e1]
                        have hbk : ∀ b', fs k b' → b' ≠ b := by
                          intro b' hb hc
                          subst hc
                          rcases g.lies with ⟨hc, _⟩ | ⟨hc, _⟩
                          · exact (r4 _ _ hb).2 hc
                          · exact r3.disj _ _ e1 _ hb hc
                        have hrow : ∀ j, j < t.size → rowW w a.block (a.off + k * t.size) j = rowW w' a.block (a.off + k * t.size) j := by
                          intro j hj
                          by_cases hc : a.block = b
                          · rw [rowW_at w, rowW_at w', hc]
                            refine (hat.row _ ?_).symm
                            rcases g.lies with ⟨_, g7, g8⟩ | ⟨_, g8, _⟩
                            · rcases Nat.lt_or_gt_of_ne e1 with hlt | hlt
                              · left
                                have : k * t.size + t.size ≤ i.toNat * t.size := by rw [← Nat.succ_mul]; exact Nat.mul_le_mul_right _ hlt
                                omega
                              · right
                                have : i.toNat * t.size + t.size ≤ k * t.size := by rw [← Nat.succ_mul]; exact Nat.mul_le_mul_right _ hlt
                                omega
                            · exact absurd hc.symm g8
                          · simp only [rowW]; rw [hat.other _ hc (.inr (.inl r1))]
                        refine rep_cells hrow (rep_frame hF (fun b' hb => hat.other _ (fun hc => hat.notF (hc ▸ hb)) (.inl hb)) (fun b' hb => hat.other _ (hbk b' hb) (.inr (.inl (r4 _ _ hb).1))) (r5 k hk))
                · cases hs'
        | _ => simp [ownP] at ho
      | _ => simp [rs] at hr
  | ptr e t ih =>
    intro m x b0 o0 fp u c' b o h hb0 hi ho hr
    cases p with
    | nil => simp only [rs] at hr; exact lens_nil h hb0 hr
    | cons q p => cases q with
      | der =>
        simp only [rs] at hr
        cases m with
        | o m =>
          cases x with
          | none => simp [inP] at hi
          | some x =>
            simp only [inP] at hi
            simp only [ownP] at ho
            simp only [rep] at h
            obtain ⟨A, h1, a, ha, hsp, r1, r2, f, r4, r5⟩ := h
            subst ha
            rw [h1] at hr
            simp only at hr
            obtain ⟨fold, g⟩ := ih r5 (fun hc => (r4 _ hc).2 rfl) hi ho hr
            have hob : b ≠ b0 := by
              rcases g.lies with ⟨rfl, _⟩ | ⟨g7, _⟩
              · exact fun hc => hb0 (hc ▸ r1)
              · exact fun hc => hb0 (hc ▸ (r4 _ g7).1)
            refine ⟨fold, fun b hb => (r4 _ (g.sub b hb)).1, g.nb, ?_, .inr ?_, ?_⟩
            · obtain ⟨mo, yo, g1, g2⟩ := g.old; exact ⟨mo, yo, by simp only [getP]; exact g1, g2⟩
            · rcases g.lies with ⟨rfl, g7, g8⟩ | ⟨g7, g8, g9⟩
              · refine ⟨r1, hob, ?_⟩
                obtain ⟨cs, el, fz, k1, k2, k3⟩ := r2
                exact ⟨cs, el, fz, k1, by omega, k3⟩
              · exact ⟨(r4 _ g7).1, hob, g9⟩
            · intro mu y m' x' F' w' fq hs' hF hat hq hrep
              simp only [setP] at hs'
              cases hs2 : setP t m x p u mu y with
              | none => rw [hs2] at hs'; cases hs'
              | some z =>
                obtain ⟨m2, x2⟩ := z
                rw [hs2] at hs'
                simp only [Option.some.injEq] at hs'
                obtain ⟨rfl, rfl⟩ := hs'
                have hnf : ¬ fold a.block := fun hc => (r4 _ (g.sub _ hc)).2 rfl
                have hqa : ∀ b', fq b' → b' ≠ a.block := fun b' hb hc => (hq b' hb).1 ⟨hc ▸ r1, hc ▸ hnf⟩
                have hnew := g.new mu y m2 x2 F' w' fq hs2 hF (hat.sub (fun b hb => (r4 _ hb).1) (.inl r1))
                  (fun b' hb => ⟨fun hc => (hq b' hb).1 ⟨(r4 _ hc.1).1, hc.2⟩, (hq b' hb).2.1, hqa b' hb⟩) hrep
                have hb0s : rowW w' b0 o0 0 = rowW w b0 o0 0 := by
                  simp only [rowW]; rw [hat.other b0 (Ne.symm hob) (.inr (.inr rfl))]
                have hkeep : holdsW w' a.block (a.off + t.size) true := by
                  by_cases hc : a.block = b
                  · exact hc ▸ hat.keep _ _ (hc ▸ r2)
                  · exact (holds_same (hat.other _ hc (.inr (.inl r1)))).2 r2
                simp only [rep]
                refine ⟨some a, by rw [hb0s, h1], a, rfl, hsp, .inl ⟨r1, hnf⟩, hkeep, _, ?_, hnew⟩
                rintro b' (hb | hb)
                · exact ⟨.inl ⟨(r4 _ hb.1).1, hb.2⟩, (r4 _ hb.1).2⟩
                · exact ⟨.inr hb, hqa b' hb⟩
        | _ => simp [ownP] at ho
      | _ => simp [rs] at hr
  | arr n t ih =>
    intro m (x : List t.I) b0 o0 fp u c' b o h hb0 hi ho hr
    cases p with
    | nil => simp only [rs] at hr; exact lens_nil h hb0 hr
    | cons q p => cases q with
      | idx i =>
        simp only [rs] at hr
        simp only [inP] at hi
        simp only [ownP] at ho
        rw [rowW_add] at hr
        obtain ⟨hmj, ho⟩ := ho
        have key : ∃ fs : Nat → Blks, Disj fs ∧ (∀ i b, fs i b → fp b) ∧ List.length (x : List t.I) = n ∧
            ∀ i, i < n → rep F w t m.el (List.getD (x : List t.I) i t.dflt) (rowW w b0 (o0 + i * t.size)) (fs i) := by
          cases m with
          | j => cases hmj
          | _ =>
            simp only [rep] at h
            obtain ⟨hn, fs, h1, h2, r⟩ := h
            exact ⟨fs, h1, h2, hn, fun i hi => by rw [← rowW_add]; exact r i hi⟩
        obtain ⟨fs, r3, r4, hn, r5⟩ := key
        obtain ⟨fold, g⟩ := ih (r5 _ (hn ▸ hi.1)) (fun hc => hb0 (r4 _ _ hc)) hi.2 ho hr
        refine ⟨fold, fun b hb => r4 _ _ (g.sub b hb), g.nb, ?_, ?_, ?_⟩
        · obtain ⟨mo, yo, g1, g2⟩ := g.old; exact ⟨mo, yo, by simp only [getP]; exact g1, g2⟩
        · rcases g.lies with ⟨g6, g7, g8⟩ | ⟨g7, g8, g9⟩
          · have : i.toNat * t.size + t.size ≤ n * t.size := by
              rw [← Nat.succ_mul]; exact Nat.mul_le_mul_right _ (by omega)
            exact .inl ⟨g6, by omega, by simp only [Ty.size]; omega⟩
          · exact .inr ⟨r4 _ _ g7, g8, g9⟩
        · intro mu y m' x' F' w' fq hs' hF hat hq hrep
          simp only [setP, hmj] at hs'
          cases hs2 : setP t m.el (List.getD (x : List t.I) i.toNat t.dflt) p u mu y with
          | none => rw [hs2] at hs'; cases hs'
          | some z =>
            obtain ⟨m2, x2⟩ := z
            rw [hs2] at hs'
            simp only at hs'
            split at hs'
            · rename_i he
              obtain rfl := Md.eqb_eq he
              simp only [Option.some.injEq] at hs'
              obtain ⟨rfl, rfl⟩ := hs'
              have hnew := g.new mu y m.el x2 F' w' fq hs2 hF (hat.sub (fun b hb => r4 _ _ hb) (.inr rfl))
                (fun b' hb => ⟨fun hc => (hq b' hb).1 ⟨r4 _ _ hc.1, hc.2⟩, (hq b' hb).2.1, (hq b' hb).2.2⟩) hrep
              have goal : List.length (List.set (x : List t.I) i.toNat x2) = n ∧ ∃ fs : Nat → Blks, Disj fs ∧ (∀ i b, fs i b → ((fp b ∧ ¬ fold b) ∨ fq b)) ∧
                  ∀ k, k < n → rep F' w' t m.el (List.getD (List.set (x : List t.I) i.toNat x2) k t.dflt) (fun j => rowW w' b0 o0 (k * t.size + j)) (fs k) := by
                refine ⟨by simpa using hn, fun k b' => if k = i.toNat then (fs k b' ∧ ¬ fold b') ∨ fq b' else fs k b', ⟨?_⟩, ?_, ?_⟩
                · intro k k' hkk b' hb1 hb2
                  by_cases e1 : k = i.toNat <;> by_cases e2 : k' = i.toNat <;> simp only [e1, e2, if_true, if_false] at hb1 hb2
                  · exact hkk (e1.trans e2.symm)
                  · rcases hb1 with hb1 | hb1
                    · exact r3.disj _ _ (fun hc => e2 hc.symm) _ hb1.1 hb2
                    · exact (hq b' hb1).1 ⟨r4 _ _ hb2, fun hc => r3.disj _ _ e2 _ hb2 (g.sub _ hc)⟩
                  · rcases hb2 with hb2 | hb2
                    · exact r3.disj _ _ e1 _ hb1 hb2.1
                    · exact (hq b' hb2).1 ⟨r4 _ _ hb1, fun hc => r3.disj _ _ e1 _ hb1 (g.sub _ hc)⟩
                  · exact r3.disj _ _ hkk _ hb1 hb2
                · intro k b' hb
                  by_cases e1 : k = i.toNat <;> simp only [e1, if_true, if_false] at hb
                  · rcases hb with hb | hb
                    · exact .inl ⟨r4 _ _ hb.1, hb.2⟩
                    · exact .inr hb
                  · exact .inl ⟨r4 _ _ hb, fun hc => r3.disj _ _ e1 _ hb (g.sub _ hc)⟩
                · intro k hk
                  rw [rowW_add]
                  by_cases e1 : k = i.toNat
                  · simp only [e1, if_true]
                    rw [getD_set_self hi.1]
                    exact hnew
                  · simp only [e1, if_false]
                    rw [getD_set_other e1]
                    have hbk : ∀ b', fs k b' → b' ≠ b := by
                      intro b' hb hc
                      subst hc
                      rcases g.lies with ⟨hc, _⟩ | ⟨hc, _⟩
                      · exact hb0 (hc ▸ r4 _ _ hb)
                      · exact r3.disj _ _ e1 _ hb hc
                    have hrow : ∀ j, j < t.size → rowW w b0 (o0 + k * t.size) j = rowW w' b0 (o0 + k * t.size) j := by
                      intro j hj
                      by_cases hc : b0 = b
                      · rw [rowW_at w, rowW_at w', hc]
                        refine (hat.row _ ?_).symm
                        rcases g.lies with ⟨_, g7, g8⟩ | ⟨_, g8, _⟩
                        · rcases Nat.lt_or_gt_of_ne e1 with hlt | hlt
                          · left
                            have : k * t.size + t.size ≤ i.toNat * t.size := by rw [← Nat.succ_mul]; exact Nat.mul_le_mul_right _ hlt
                            omega
                          · right
                            have : i.toNat * t.size + t.size ≤ k * t.size := by rw [← Nat.succ_mul]; exact Nat.mul_le_mul_right _ hlt
                            omega
                        · exact absurd hc.symm g8
                      · simp only [rowW]; rw [hat.other _ hc (.inr (.inr rfl))]
                    exact rep_cells hrow (rep_frame hF (fun b' hb => hat.other _ (fun hc => hat.notF (hc ▸ hb)) (.inl hb)) (fun b' hb => hat.other _ (hbk b' hb) (.inr (.inl (r4 _ _ hb)))) (r5 k hk))
              cases m with
              | j => cases hmj
              | _ => simp only [rep]; exact goal
            · cases hs'
      | _ => simp [rs] at hr
  | pair t1 t2 iha ihb =>
    intro m x b0 o0 fp u c' b o h hb0 hi ho hr
    cases p with
    | nil => simp only [rs] at hr; exact lens_nil h hb0 hr
    | cons q p => cases q with
      | fld n =>
        obtain ⟨fa, fb, h1, h2, h3, ra, rb⟩ := rep_pair h
        cases n with
        | zero =>
          simp only [rs] at hr
          simp only [inP] at hi
          simp only [ownP] at ho
          obtain ⟨fold, g⟩ := iha ra (fun hc => hb0 (h1 _ hc)) hi ho hr
          refine ⟨fold, fun b hb => h1 _ (g.sub b hb), g.nb, ?_, ?_, ?_⟩
          · obtain ⟨mo, yo, g1, g2⟩ := g.old; exact ⟨mo, yo, by simp only [getP]; exact g1, g2⟩
          · rcases g.lies with ⟨g6, g7, g8⟩ | ⟨g7, g8, g9⟩
            · exact .inl ⟨g6, g7, by simp only [Ty.size]; omega⟩
            · exact .inr ⟨h1 _ g7, g8, g9⟩
          · intro mu y m' x' F' w' fq hs' hF hat hq hrep
            simp only [setP] at hs'
            cases hs2 : setP t1 m.fst x.1 p u mu y with
            | none => rw [hs2] at hs'; cases hs'
            | some z =>
              obtain ⟨m2, x2⟩ := z
              rw [hs2] at hs'
              simp only [Option.some.injEq] at hs'
              obtain ⟨rfl, rfl⟩ := hs'
              have hnew := g.new mu y m2 x2 F' w' fq hs2 hF (hat.sub (fun b hb => h1 _ hb) (.inr rfl))
                (fun b' hb => ⟨fun hc => (hq b' hb).1 ⟨h1 _ hc.1, hc.2⟩, (hq b' hb).2.1, (hq b' hb).2.2⟩) hrep
              have hbb : ∀ b', fb b' → b' ≠ b := by
                intro b' hb hc
                subst hc
                rcases g.lies with ⟨hc, _⟩ | ⟨hc, _⟩
                · exact hb0 (hc ▸ h2 _ hb)
                · exact h3 _ hc hb
              refine rep_mkp (fa := fun b' => (fa b' ∧ ¬ fold b') ∨ fq b') (fb := fb) ?_ ?_ ?_ hnew ?_
              · rintro b' (hb | hb)
                · exact .inl ⟨h1 _ hb.1, hb.2⟩
                · exact .inr hb
              · exact fun b' hb => .inl ⟨h2 _ hb, fun hc => h3 _ (g.sub _ hc) hb⟩
              · rintro b' (hb | hb) hb2
                · exact h3 _ hb.1 hb2
                · exact (hq b' hb).1 ⟨h2 _ hb2, fun hc => h3 _ (g.sub _ hc) hb2⟩
              · rw [rowW_add]
                rw [rowW_add] at rb
                refine rep_cells (fun j hj => ?_) (rep_frame hF (fun b' hb => hat.other _ (fun hc => hat.notF (hc ▸ hb)) (.inl hb)) (fun b' hb => hat.other _ (hbb b' hb) (.inr (.inl (h2 _ hb)))) rb)
                by_cases hc : b0 = b
                · rw [rowW_at w, rowW_at w', hc]
                  refine (hat.row _ (.inr ?_)).symm
                  rcases g.lies with ⟨_, g7, g8⟩ | ⟨_, g8, _⟩
                  · omega
                  · exact absurd hc.symm g8
                · simp only [rowW]; rw [hat.other _ hc (.inr (.inr rfl))]
        | succ n =>
          simp only [rs, Option.map_some] at hr
          simp only [inP] at hi
          simp only [ownP] at ho
          rw [rowW_add] at rb hr
          obtain ⟨fold, g⟩ := ihb rb (fun hc => hb0 (h2 _ hc)) hi ho hr
          refine ⟨fold, fun b hb => h2 _ (g.sub b hb), g.nb, ?_, ?_, ?_⟩
          · obtain ⟨mo, yo, g1, g2⟩ := g.old; exact ⟨mo, yo, by simp only [getP]; exact g1, g2⟩
          · rcases g.lies with ⟨g6, g7, g8⟩ | ⟨g7, g8, g9⟩
            · exact .inl ⟨g6, by omega, by simp only [Ty.size]; omega⟩
            · exact .inr ⟨h2 _ g7, g8, g9⟩
          · intro mu y m' x' F' w' fq hs' hF hat hq hrep
            simp only [setP] at hs'
            cases hs2 : setP t2 m.snd x.2 (.fld n :: p) u mu y with
            | none => rw [hs2] at hs'; cases hs'
            | some z =>
              obtain ⟨m2, x2⟩ := z
              rw [hs2] at hs'
              simp only [Option.some.injEq] at hs'
              obtain ⟨rfl, rfl⟩ := hs'
              have hnew := g.new mu y m2 x2 F' w' fq hs2 hF (hat.sub (fun b hb => h2 _ hb) (.inr rfl))
                (fun b' hb => ⟨fun hc => (hq b' hb).1 ⟨h2 _ hc.1, hc.2⟩, (hq b' hb).2.1, (hq b' hb).2.2⟩) hrep
              have haa : ∀ b', fa b' → b' ≠ b := by
                intro b' hb hc
                subst hc
                rcases g.lies with ⟨hc, _⟩ | ⟨hc, _⟩
                · exact hb0 (hc ▸ h1 _ hb)
                · exact h3 _ hb hc
              refine rep_mkp (fa := fa) (fb := fun b' => (fb b' ∧ ¬ fold b') ∨ fq b') ?_ ?_ ?_ ?_ (by rw [rowW_add]; exact hnew)
              · exact fun b' hb => .inl ⟨h1 _ hb, fun hc => h3 _ hb (g.sub _ hc)⟩
              · rintro b' (hb | hb)
                · exact .inl ⟨h2 _ hb.1, hb.2⟩
                · exact .inr hb
              · rintro b' hb (hb2 | hb2)
                · exact h3 _ hb hb2.1
                · exact (hq b' hb2).1 ⟨h1 _ hb, fun hc => h3 _ hb (g.sub _ hc)⟩
              · refine rep_cells (fun j hj => ?_) (rep_frame hF (fun b' hb => hat.other _ (fun hc => hat.notF (hc ▸ hb)) (.inl hb)) (fun b' hb => hat.other _ (haa b' hb) (.inr (.inl (h1 _ hb)))) ra)
                by_cases hc : b0 = b
                · rw [rowW_at w, rowW_at w', hc]
                  refine (hat.row _ (.inl ?_)).symm
                  rcases g.lies with ⟨_, g7, g8⟩ | ⟨_, g8, _⟩
                  · omega
                  · exact absurd hc.symm g8
                · simp only [rowW]; rw [hat.other _ hc (.inr (.inr rfl))]
      | _ => simp [rs] at hr
  | _ =>
    intro m x b0 o0 fp u c' b o h hb0 hi ho hr
    cases p with
    | nil => simp only [rs] at hr; exact lens_nil h hb0 hr
    | cons q p => simp [rs] at hr

end Go.Trm
