import Derived.Test.YtiooemenojlbjaaGreatTrmKeep
import Derived.Test.YtiooemenojlbjaaGreatTrmState
set_option linter.unusedVariables false
set_option linter.unusedSimpArgs false
namespace Go.Trm

/-! ## A slot's value seen as a block of memory -/

def pushW (w : World) (cs : Array Value) : World := { w with heap := w.heap.push (.cells cs 0) }

theorem pushW_same {w : World} {cs : Array Value} {b : Nat} (h : b < w.heap.size) : Same w (pushW w cs) b := by
  unfold Same pushW
  simp only [Array.getElem?_push]
  rw [if_neg (by omega)]

theorem pushW_row (w : World) (cs : Array Value) (j : Nat) : rowW (pushW w cs) w.heap.size 0 j = cs.getD j undef := by
  have h : (pushW w cs).heap[w.heap.size]? = some (.cells cs 0 (0, 0)) := Array.getElem?_push_size
  simp only [rowW, h, rowOf, Nat.zero_add]

theorem same_symm {w w' : World} {b : Nat} (h : Same w w' b) : Same w' w b := Eq.symm h
theorem same_trans {w w' w'' : World} {b : Nat} (h : Same w w' b) (h' : Same w' w'' b) : Same w w'' b := Eq.trans h' h

/-- a place in a slot goes into a block at once, or stays in the slot -/
def regOk : List PE → Bool
  | .fld _ :: p => flds p
  | _ => true

theorem rs_A {w : World} : ∀ {p : List PE} {t : Ty} {c : Cells} {u : Ty} {c' : Cells} {z : Nat × Nat}, rs w t c none p = some (u, c', some z) → ∀ ad, rs w t c ad p = some (u, c', some z) := by
  intro p t
  induction t generalizing p with
  | sl e t ih => intro c u c' z h ad; cases p with
    | nil => simp [rs] at h
    | cons q p => cases q with
      | idx i => simp only [rs] at h ⊢; exact h
      | _ => simp [rs] at h
  | ptr e t ih => intro c u c' z h ad; cases p with
    | nil => simp [rs] at h
    | cons q p => cases q with
      | der => simp only [rs] at h ⊢; exact h
      | _ => simp [rs] at h
  | arr n t ih => intro c u c' z h ad; cases p with
    | nil => simp [rs] at h
    | cons q p => cases q with
      | idx i => simp only [rs, Option.map_none] at h ⊢; exact ih h _
      | _ => simp [rs] at h
  | pair a b iha ihb => intro c u c' z h ad; cases p with
    | nil => simp [rs] at h
    | cons q p => cases q with
      | fld n => cases n with
        | zero => simp only [rs] at h ⊢; exact iha h _
        | succ n => simp only [rs, Option.map_none] at h ⊢; exact ihb h _
      | _ => simp [rs] at h
  | _ => intro c u c' z h ad; cases p with
    | nil => simp [rs] at h
    | cons q p => simp [rs] at h

theorem rs_isSome {w : World} : ∀ {p : List PE} {t : Ty} {c : Cells} {z : Nat × Nat} {u : Ty} {c' : Cells} {r : Option (Nat × Nat)}, rs w t c (some z) p = some (u, c', r) → r.isSome = true := by
  intro p t
  induction t generalizing p with
  | sl e t ih => intro c z u c' r h; cases p with
    | nil => simp only [rs, Option.some.injEq, Prod.mk.injEq] at h; obtain ⟨_, _, rfl⟩ := h; rfl
    | cons q p => cases q with
      | idx i => simp only [rs] at h; split at h
                 · exact ih h
                 · cases h
      | _ => simp [rs] at h
  | ptr e t ih => intro c z u c' r h; cases p with
    | nil => simp only [rs, Option.some.injEq, Prod.mk.injEq] at h; obtain ⟨_, _, rfl⟩ := h; rfl
    | cons q p => cases q with
      | der => simp only [rs] at h; split at h
               · exact ih h
               · cases h
      | _ => simp [rs] at h
  | arr n t ih => intro c z u c' r h; cases p with
    | nil => simp only [rs, Option.some.injEq, Prod.mk.injEq] at h; obtain ⟨_, _, rfl⟩ := h; rfl
    | cons q p => cases q with
      | idx i => simp only [rs, Option.map_some] at h; exact ih h
      | _ => simp [rs] at h
  | pair a b iha ihb => intro c z u c' r h; cases p with
    | nil => simp only [rs, Option.some.injEq, Prod.mk.injEq] at h; obtain ⟨_, _, rfl⟩ := h; rfl
    | cons q p => cases q with
      | fld n => cases n with
        | zero => simp only [rs] at h; exact iha h
        | succ n => simp only [rs, Option.map_some] at h; exact ihb h
      | _ => simp [rs] at h
  | _ => intro c z u c' r h; cases p with
    | nil => simp only [rs, Option.some.injEq, Prod.mk.injEq] at h; obtain ⟨_, _, rfl⟩ := h; rfl
    | cons q p => simp [rs] at h

theorem rs_B {w : World} : ∀ {p : List PE} {t : Ty} {c : Cells} {u : Ty} {c' : Cells}, rs w t c none p = some (u, c', none) → ∀ b o, ∃ o', rs w t c (some (b, o)) p = some (u, c', some (b, o')) := by
  intro p t
  induction t generalizing p with
  | sl e t ih => intro c u c' h b o; cases p with
    | nil => simp only [rs, Option.some.injEq, Prod.mk.injEq, and_true] at h ⊢; obtain ⟨rfl, rfl⟩ := h; exact ⟨o, rfl, rfl, trivial, rfl⟩
    | cons q p => cases q with
      | idx i =>
        simp only [rs] at h
        split at h
        · exfalso
          have := rs_isSome h
          cases this
        · cases h
      | _ => simp [rs] at h
  | ptr e t ih => intro c u c' h b o; cases p with
    | nil => simp only [rs, Option.some.injEq, Prod.mk.injEq, and_true] at h ⊢; obtain ⟨rfl, rfl⟩ := h; exact ⟨o, rfl, rfl, trivial, rfl⟩
    | cons q p => cases q with
      | der =>
        simp only [rs] at h
        split at h
        · exfalso
          have := rs_isSome h
          cases this
        · cases h
      | _ => simp [rs] at h
  | arr n t ih => intro c u c' h b o; cases p with
    | nil => simp only [rs, Option.some.injEq, Prod.mk.injEq, and_true] at h ⊢; obtain ⟨rfl, rfl⟩ := h; exact ⟨o, rfl, rfl, trivial, rfl⟩
    | cons q p => cases q with
      | idx i => simp only [rs, Option.map_none, Option.map_some] at h ⊢; exact ih h _ _
      | _ => simp [rs] at h
  | pair x y iha ihb => intro c u c' h b o; cases p with
    | nil => simp only [rs, Option.some.injEq, Prod.mk.injEq, and_true] at h ⊢; obtain ⟨rfl, rfl⟩ := h; exact ⟨o, rfl, rfl, trivial, rfl⟩
    | cons q p => cases q with
      | fld n => cases n with
        | zero => simp only [rs] at h ⊢; exact iha h _ _
        | succ n => simp only [rs, Option.map_none, Option.map_some] at h ⊢; exact ihb h _ _
      | _ => simp [rs] at h
  | _ => intro c u c' h b o; cases p with
    | nil => simp only [rs, Option.some.injEq, Prod.mk.injEq, and_true] at h ⊢; obtain ⟨rfl, rfl⟩ := h; exact ⟨o, rfl, rfl, trivial, rfl⟩
    | cons q p => simp [rs] at h

/-- behind a block's beginning all lies in blocks that are its own -/
theorem rs_fp {F : Blks} {w : World} : ∀ {p : List PE} {t : Ty} {m : Md} {x : t.I} {c : Cells} {fp : Blks} {u : Ty} {c' : Cells} {b o : Nat},
    rep F w t m x c fp → inP t x p → ownP t m p → rs w t c none p = some (u, c', some (b, o)) → fp b := by
  intro p t
  induction t generalizing p with
  | sl e t ih => intro m x c fp u c' b o h hi ho hr; cases p with
    | nil => simp [rs] at hr
    | cons q p => cases q with
      | idx i =>
        cases m with
        | o m =>
          simp only [ownP] at ho
          simp only [inP] at hi
          simp only [rep] at h
          obtain ⟨A, cap, h1, h2, h3, h4, r⟩ := h
          cases A with
          | none => have := h4 rfl; omega
          | some a =>
            obtain ⟨hsp, r1, r2, fs, r3, r4, r5⟩ := r a rfl
            simp only [rs, h1] at hr
            obtain ⟨fold, g⟩ := rep_lens (r5 _ hi.1) (fun hc => (r4 _ _ hc).2 rfl) hi.2 ho hr
            rcases g.lies with ⟨rfl, _⟩ | ⟨g7, _⟩
            · exact r1
            · exact (r4 _ _ g7).1
        | _ => simp [ownP] at ho
      | _ => simp [rs] at hr
  | ptr e t ih => intro m x c fp u c' b o h hi ho hr; cases p with
    | nil => simp [rs] at hr
    | cons q p => cases q with
      | der =>
        cases m with
        | o m =>
          cases x with
          | none => simp [inP] at hi
          | some x =>
            simp only [ownP] at ho
            simp only [inP] at hi
            simp only [rep] at h
            obtain ⟨A, h1, a, ha, hsp, r1, r2, f, r4, r5⟩ := h
            subst ha
            simp only [rs, h1] at hr
            obtain ⟨fold, g⟩ := rep_lens r5 (fun hc => (r4 _ hc).2 rfl) hi ho hr
            rcases g.lies with ⟨rfl, _⟩ | ⟨g7, _⟩
            · exact r1
            · exact (r4 _ g7).1
        | _ => simp [ownP] at ho
      | _ => simp [rs] at hr
  | arr n t ih => intro m x c fp u c' b o h hi ho hr; cases p with
    | nil => simp [rs] at hr
    | cons q p => cases q with
      | idx i =>
        simp only [ownP] at ho
        obtain ⟨hmj, ho⟩ := ho
        simp only [inP] at hi
        simp only [rs, Option.map_none] at hr
        have key : ∃ fs : Nat → Blks, (∀ i b, fs i b → fp b) ∧ rep F w t m.el (List.getD (x : List t.I) i.toNat t.dflt) (fun j => c (i.toNat * t.size + j)) (fs i.toNat) := by
          cases m with
          | j => cases hmj
          | _ => simp only [rep] at h; obtain ⟨hn, fs, _, h2, r⟩ := h; exact ⟨fs, h2, r _ (hn ▸ hi.1)⟩
        obtain ⟨fs, h2, r⟩ := key
        exact h2 _ _ (ih r hi.2 ho hr)
      | _ => simp [rs] at hr
  | pair a b iha ihb => intro m x c fp u c' b' o h hi ho hr; cases p with
    | nil => simp [rs] at hr
    | cons q p => cases q with
      | fld n =>
        obtain ⟨fa, fb, h1, h2, h3, ra, rb⟩ := rep_pair h
        cases n with
        | zero => simp only [rs] at hr; simp only [inP] at hi; simp only [ownP] at ho; exact h1 _ (iha ra hi ho hr)
        | succ n => simp only [rs, Option.map_none] at hr; simp only [inP] at hi; simp only [ownP] at ho; exact h2 _ (ihb rb hi ho hr)
      | _ => simp [rs] at hr
  | _ => intro m x c fp u c' b o h hi ho hr; cases p with
    | nil => simp [rs] at hr
    | cons q p => simp [rs] at hr

/-- how memory may have changed, where a place is filled anew -/
def Chg (F : Blks) (w w' : World) (fp : Blks) (u : Ty) : Option (Nat × Nat) → Prop
  | some (b, o) => At F fp w w' b b o u.size
  | none => ∀ b, (F b ∨ fp b) → Same w w' b

def newRow (w' : World) (c' : Cells) : Option (Nat × Nat) → Cells
  | some (b, o) => rowW w' b o
  | none => c'

/-- the places of a slot -/
structure Put (F : Blks) (w : World) (t : Ty) (m : Md) (x : t.I) (V : Value) (fp : Blks) (p : List PE) (u : Ty) (c' : Cells) (ad : Option (Nat × Nat)) (fold : Blks) : Prop where
  sub : ∀ b, fold b → fp b
  old : ∃ mo yo, getP t m x p = some ⟨u, mo, yo⟩ ∧ rep F w u mo yo c' fold
  lies : ∀ b o, ad = some (b, o) → fp b ∧ ¬ fold b ∧ holdsW w b (o + u.size) true ∧ c' = rowW w b o
  new : ∀ mu y m' x' (F' : Blks) w' (fq : Blks), setP t m x p u mu y = some (m', x') → (∀ b, F b → F' b) → w'.heap.size = w.heap.size → Chg F w w' fp u ad →
      rep F' w' u mu y (newRow w' c' ad) fq → (∀ b', fq b' → ¬ (fp b' ∧ ¬ fold b') ∧ b' < w.heap.size) → (∀ b', F' b' → b' < w.heap.size) → rep F' w' t m' x' (cv V) (fun b' => (fp b' ∧ ¬ fold b') ∨ fq b')

theorem put_of {F : Blks} {w : World} {t : Ty} {m : Md} {x : t.I} {V : Value} {fp : Blks} {p : List PE} {u : Ty} {c' : Cells} {ad : Option (Nat × Nat)}
    (h : rep F w t m x (cv V) fp) (hfp : ∀ b, fp b → b < w.heap.size) (hF : ∀ b, F b → b < w.heap.size) (hi : inP t x p) (ho : ownP t m p) (hr : rs w t (cv V) none p = some (u, c', ad)) :
    ∃ fold, Put F w t m x V fp p u c' ad fold := by
  have hrow : ∀ w : World, rowW (pushW w V.cells) w.heap.size 0 = cv V := by
    intro w; funext j; rw [pushW_row]; rfl
  have hs : ∀ b, (F b ∨ fp b) → Same w (pushW w V.cells) b := fun b hb => pushW_same (by rcases hb with hb | hb; exact hF _ hb; exact hfp _ hb)
  have h' : rep F (pushW w V.cells) t m x (rowW (pushW w V.cells) w.heap.size 0) fp := by
    rw [hrow]; exact rep_frame (fun _ hb => hb) (fun b hb => hs b (.inl hb)) (fun b hb => hs b (.inr hb)) h
  have hb0 : ¬ fp w.heap.size := fun hc => Nat.lt_irrefl _ (hfp _ hc)
  obtain ⟨c3, hr3, hc3⟩ := rs_same (ad := none) h hi ho (fun b hb => hs b (.inr hb)) (fun _ _ => rfl) hr
  cases ad with
  | some z =>
    obtain ⟨b, o⟩ := z
    have hbf := rs_fp h hi ho hr
    have hbs := hfp _ hbf
    have hrc : c' = rowW w b o := rs_row (fun q hq => by cases hq) hr
    have hr4 := rs_A hr3 (some (w.heap.size, 0))
    rw [← hrow w] at hr4
    obtain ⟨fold, g⟩ := rep_lens h' hb0 hi ho hr4
    have hlies : fp b ∧ b ≠ w.heap.size ∧ holdsW (pushW w V.cells) b (o + u.size) true := by
      rcases g.lies with ⟨hc, _⟩ | g7
      · omega
      · exact g7
    have hfold : ∀ b', fold b' → b' < w.heap.size := fun b' hb => hfp _ (g.sub _ hb)
    refine ⟨fold, g.sub, ?_, ?_, ?_⟩
    · obtain ⟨mo, yo, g1, g2⟩ := g.old
      refine ⟨mo, yo, g1, ?_⟩
      rw [hrc, ← row_same (pushW_same (cs := V.cells) hbs)]
      exact rep_frame (fun _ hb => hb) (fun b hb => same_symm (hs b (.inl hb))) (fun b hb => same_symm (pushW_same (hfold _ hb))) g2
    · rintro b' o' hbo
      simp only [Option.some.injEq, Prod.mk.injEq] at hbo
      obtain ⟨rfl, rfl⟩ := hbo
      exact ⟨hbf, g.nb, (holds_same (pushW_same hbs)).1 hlies.2.2, hrc⟩
    · intro mu y m' x' F' w' fq hset hFF hsz hat hrep hq hF'
      simp only [newRow] at hrep
      have hat' : At F fp (pushW w V.cells) (pushW w' V.cells) w.heap.size b o u.size := by
        refine ⟨?_, ?_, ?_, hat.notF⟩
        · intro b' hb' hc
          by_cases hlt : b' < w.heap.size
          · have h1 : Same w w' b' := hat.other b' hb' (by
              rcases hc with hc | hc | hc
              · exact .inl hc
              · exact .inr (.inl hc)
              · omega)
            exact same_trans (same_symm (pushW_same hlt)) (same_trans h1 (pushW_same (by omega)))
          · have : b' = w.heap.size := by
              rcases hc with hc | hc | hc
              · exact absurd (hF _ hc) hlt
              · exact absurd (hfp _ hc) hlt
              · exact hc
            subst this
            have e1 : (pushW w V.cells).heap[w.heap.size]? = some (.cells V.cells 0 (0, 0)) := Array.getElem?_push_size
            have e2 : (pushW w' V.cells).heap[w'.heap.size]? = some (.cells V.cells 0 (0, 0)) := Array.getElem?_push_size
            unfold Same
            rw [e1, ← hsz, e2]
        · intro j hj
          rw [row_same (pushW_same (by omega)), row_same (pushW_same hbs)]
          exact hat.row j hj
        · intro n wr hh
          exact (holds_same (pushW_same (by omega))).2 (hat.keep _ _ ((holds_same (pushW_same hbs)).1 hh))
      have hnew := g.new mu y m' x' F' (pushW w' V.cells) fq hset hFF hat' (fun b' hb => ⟨(hq b' hb).1, fun hc => (hq b' hb).1 ⟨hc ▸ hbf, hc ▸ g.nb⟩, by have := (hq b' hb).2; omega⟩)
        (by rw [row_same (pushW_same (by omega))]
            exact rep_frame (fun _ hb => hb) (fun b hb => pushW_same (by have := hF' _ hb; omega)) (fun b hb => pushW_same (by have := (hq _ hb).2; omega)) hrep)
      rw [← hsz, hrow w'] at hnew
      exact rep_frame (fun _ hb => hb) (fun b hb => same_symm (pushW_same (by have := hF' _ hb; omega)))
        (fun b hb => same_symm (pushW_same (by rcases hb with hb | hb; have := hfp _ hb.1; omega; have := (hq _ hb).2; omega))) hnew
  | none =>
    obtain ⟨o, hr4⟩ := rs_B hr3 w.heap.size 0
    rw [← hrow w] at hr4
    obtain ⟨fold, g⟩ := rep_lens h' hb0 hi ho hr4
    have hrc : c3 = rowW (pushW w V.cells) w.heap.size o := rs_row (fun q hq => by injection hq with hq; subst hq; rfl) hr4
    have hfold : ∀ b', fold b' → b' < w.heap.size := fun b' hb => hfp _ (g.sub _ hb)
    refine ⟨fold, g.sub, ?_, (fun _ _ hc => nomatch hc), ?_⟩
    · obtain ⟨mo, yo, g1, g2⟩ := g.old
      refine ⟨mo, yo, g1, ?_⟩
      rw [← hrc] at g2
      exact rep_cells (fun j hj => (hc3 j hj).symm) (rep_frame (fun _ hb => hb) (fun b hb => same_symm (hs b (.inl hb))) (fun b hb => same_symm (pushW_same (hfold _ hb))) g2)
    · intro mu y m' x' F' w' fq hset hFF hsz hat hrep hq hF'
      simp only [newRow] at hrep
      have e1 : (pushW w V.cells).heap[w.heap.size]? = some (.cells V.cells 0 (0, 0)) := Array.getElem?_push_size
      have e2 : (pushW w' V.cells).heap[w.heap.size]? = some (.cells V.cells 0 (0, 0)) := by rw [← hsz]; exact Array.getElem?_push_size
      have hsame0 : Same (pushW w V.cells) (pushW w' V.cells) w.heap.size := by unfold Same; rw [e1, e2]
      have hat' : At F fp (pushW w V.cells) (pushW w' V.cells) w.heap.size w.heap.size o u.size := by
        refine ⟨?_, fun j _ => by rw [row_same hsame0], fun n wr hh => (holds_same hsame0).2 hh, fun hc => Nat.lt_irrefl _ (hF _ hc)⟩
        intro b' hb' hc
        have hlt : b' < w.heap.size ∧ (F b' ∨ fp b') := by
          rcases hc with hc | hc | hc
          · exact ⟨hF _ hc, .inl hc⟩
          · exact ⟨hfp _ hc, .inr hc⟩
          · exact absurd hc hb'
        exact same_trans (same_symm (pushW_same hlt.1)) (same_trans (hat b' hlt.2) (pushW_same (by omega)))
      have hlies : w.heap.size = w.heap.size := rfl
      have hnew := g.new mu y m' x' F' (pushW w' V.cells) fq hset hFF hat' (fun b' hb => ⟨(hq b' hb).1, by have := (hq b' hb).2; omega, by have := (hq b' hb).2; omega⟩)
        (by rw [row_same hsame0, ← hrc]
            exact rep_cells hc3 (rep_frame (fun _ hb => hb) (fun b hb => pushW_same (by have := hF' _ hb; omega)) (fun b hb => pushW_same (by have := (hq _ hb).2; omega)) hrep))
      rw [row_same hsame0, hrow w] at hnew
      exact rep_frame (fun _ hb => hb) (fun b hb => same_symm (pushW_same (by have := hF' _ hb; omega)))
        (fun b hb => same_symm (pushW_same (by rcases hb with hb | hb; have := hfp _ hb.1; omega; have := (hq _ hb).2; omega))) hnew

end Go.Trm
