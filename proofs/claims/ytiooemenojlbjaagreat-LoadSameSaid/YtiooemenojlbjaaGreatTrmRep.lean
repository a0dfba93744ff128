import Derived.Test.YtiooemenojlbjaaGreatTrmEval
set_option linter.unusedVariables false
set_option linter.unusedSimpArgs false
namespace Go.Trm

/-! How data lies in memory. -/

def Ty.agg : Ty → Bool
  | .unit | .pair _ _ | .arr _ _ => true
  | _ => false

abbrev Cells := Nat → Value
abbrev Blks := Nat → Prop

/-- a variable's value out of its cells -/
def valOf (t : Ty) (c : Cells) : Value := if t.agg then .agg ((List.range t.size).map c).toArray else c 0

/-- the cells of a row that lies in a block, from a place on -/
def rowOf (cs : Array Value) (o : Nat) : Cells := fun j => cs.getD (o + j) undef

def rowW (w : World) (b o : Nat) : Cells := fun j => match w.heap[b]? with
  | some (.cells cs _ _) => rowOf cs o j
  | _ => undef

/-- a block of cells that holds so many, and (if it may be written) nothing of it is frozen -/
def holdsW (w : World) (b n : Nat) (wr : Bool) : Prop :=
  ∃ cs e fz, w.heap[b]? = some (.cells cs e fz) ∧ n ≤ cs.size ∧ (wr = true → fz.1 = fz.2 ∨ cs.size ≤ fz.1)

structure Disj (fs : Nat → Blks) : Prop where
  disj : ∀ i j, i ≠ j → ∀ b, fs i b → ¬ fs j b

def rep (F : Blks) (w : World) : (t : Ty) → Md → t.I → Cells → Blks → Prop
  | _, .j, _, _, _ => True
  | .int k, _, (x : Int), c, _ => c 0 = .int k x ∧ k.has x
  | .bool, _, (x : Bool), c, _ => c 0 = .bool x
  | .str, _, (x : List UInt8), c, _ => c 0 = .string ⟨x.toArray⟩ ∧ x.length ≤ 2 ^ 63 - 1
  | .unit, _, _, _, _ => True
  | .pair a b, m, x, c, fp => ∃ fa fb : Blks, (∀ i, fa i → fp i) ∧ (∀ i, fb i → fp i) ∧ (∀ i, fa i → ¬ fb i) ∧
      rep F w a m.fst x.1 c fa ∧ rep F w b m.snd x.2 (fun j => c (a.size + j)) fb
  | .arr n t, m, (x : List t.I), c, fp => x.length = n ∧ ∃ fs : Nat → Blks, Disj fs ∧ (∀ i b, fs i b → fp b) ∧
      ∀ i, i < n → rep F w t m.el (x.getD i t.dflt) (fun j => c (i * t.size + j)) (fs i)
  | .sl _ t, m, (x : List t.I), c, fp => ∃ A cap, c 0 = .slice A x.length cap ∧ x.length ≤ cap ∧ cap ≤ 2 ^ 63 - 1 ∧ (A = none → cap = 0) ∧ ∀ a, A = some a → (0 < cap → a.spot = none) ∧
      match m with
      | .o m => fp a.block ∧ holdsW w a.block (a.off + cap * t.size) true ∧ ∃ fs : Nat → Blks, Disj fs ∧ (∀ i b, fs i b → fp b ∧ b ≠ a.block) ∧
          ∀ i, i < x.length → rep F w t m (x.getD i t.dflt) (rowW w a.block (a.off + i * t.size)) (fs i)
      | .s => (x.length * t.size = 0 ∨ (F a.block ∧ holdsW w a.block (a.off + x.length * t.size) false)) ∧
          ∀ i, i < x.length → rep F w t .s (x.getD i t.dflt) (rowW w a.block (a.off + i * t.size)) (fun _ => False)
      | _ => False
  | .ptr _ t, m, (x : Option t.I), c, fp => ∃ A, c 0 = .pointer A ∧ match x with
    | none => A = none
    | some y => ∃ a, A = some a ∧ a.spot = none ∧ match m with
      | .o m => fp a.block ∧ holdsW w a.block (a.off + t.size) true ∧ ∃ f : Blks, (∀ b, f b → fp b ∧ b ≠ a.block) ∧ rep F w t m y (rowW w a.block a.off) f
      | .s => F a.block ∧ holdsW w a.block (a.off + t.size) false ∧ rep F w t .s y (rowW w a.block a.off) (fun _ => False)
      | _ => False

/-! ## Laws -/

/-- what else there is of the world stays -/
structure Still (w w' : World) : Prop where
  os : w'.os = w.os
  tape : w'.tape = w.tape
  output : w'.output = w.output
theorem Still.refl (w : World) : Still w w := ⟨rfl, rfl, rfl⟩
theorem Still.trans {a b c : World} (h : Still a b) (k : Still b c) : Still a c := ⟨k.os.trans h.os, k.tape.trans h.tape, k.output.trans h.output⟩
/-- memory has grown -/
structure Grew (w w' : World) : Prop where
  still : Still w w'
  size : w.heap.size ≤ w'.heap.size
theorem Grew.refl (w : World) : Grew w w := ⟨Still.refl w, Nat.le_refl _⟩
theorem Grew.trans {a b c : World} (h : Grew a b) (k : Grew b c) : Grew a c := ⟨h.still.trans k.still, Nat.le_trans h.size k.size⟩


def Same (w w' : World) (b : Nat) : Prop := w'.heap[b]? = w.heap[b]?

theorem row_same {w w' : World} {b : Nat} (h : Same w w' b) (o : Nat) : rowW w' b o = rowW w b o := by
  unfold rowW; rw [h]
theorem holds_same {w w' : World} {b n : Nat} {wr : Bool} (h : Same w w' b) : holdsW w' b n wr ↔ holdsW w b n wr := by
  unfold holdsW; rw [h]

theorem rep_j {F : Blks} {w : World} {t : Ty} {x : t.I} {c : Cells} {fp : Blks} : rep F w t .j x c fp := by
  cases t <;> simp [rep]

/-- only a variable's own cells count -/
theorem rep_cells {F : Blks} {w : World} : ∀ {t : Ty} {m : Md} {x : t.I} {c c' : Cells} {fp : Blks}, (∀ j, j < t.size → c j = c' j) → rep F w t m x c fp → rep F w t m x c' fp := by
  intro t
  induction t with
  | int k => intro m x c c' fp h r; cases m <;> simp only [rep] at r ⊢ <;> rw [← h 0 (by simp [Ty.size])] <;> exact r
  | bool => intro m x c c' fp h r; cases m <;> simp only [rep] at r ⊢ <;> rw [← h 0 (by simp [Ty.size])] <;> exact r
  | str => intro m x c c' fp h r; cases m <;> simp only [rep] at r ⊢ <;> rw [← h 0 (by simp [Ty.size])] <;> exact r
  | unit => intro m x c c' fp h r; cases m <;> simp only [rep] at r ⊢
  | sl e t ih => intro m x c c' fp h r; cases m <;> simp only [rep] at r ⊢ <;> rw [← h 0 (by simp [Ty.size])] <;> exact r
  | ptr T t ih => intro m x c c' fp h r; cases m <;> simp only [rep] at r ⊢ <;> rw [← h 0 (by simp [Ty.size])] <;> exact r
  | pair a b iha ihb =>
    intro m x c c' fp h r
    cases m with
    | j => exact rep_j
    | _ =>
      simp only [rep] at r ⊢
      obtain ⟨fa, fb, h1, h2, h3, r1, r2⟩ := r
      exact ⟨fa, fb, h1, h2, h3, iha (fun j hj => h j (by simp [Ty.size]; omega)) r1, ihb (fun j hj => h _ (by simp [Ty.size]; omega)) r2⟩
  | arr n t ih =>
    intro m x c c' fp h r
    cases m with
    | j => exact rep_j
    | _ =>
      simp only [rep] at r ⊢
      obtain ⟨hn, fs, h1, h2, r⟩ := r
      refine ⟨hn, fs, h1, h2, fun i hi => ih (fun j hj => h _ ?_) (r i hi)⟩
      simp only [Ty.size]
      calc i * t.size + j < i * t.size + t.size := by omega
        _ = (i + 1) * t.size := by rw [Nat.add_mul, Nat.one_mul]
        _ ≤ n * t.size := Nat.mul_le_mul_right _ hi

theorem rep_fp {F : Blks} {w : World} : ∀ {t : Ty} {m : Md} {x : t.I} {c : Cells} {fp fp' : Blks}, (∀ b, fp b → fp' b) → rep F w t m x c fp → rep F w t m x c fp' := by
  intro t
  cases t with
  | int k => intro m x c fp fp' h r; cases m <;> simp only [rep] at r ⊢ <;> exact r
  | bool => intro m x c fp fp' h r; cases m <;> simp only [rep] at r ⊢ <;> exact r
  | str => intro m x c fp fp' h r; cases m <;> simp only [rep] at r ⊢ <;> exact r
  | unit => intro m x c fp fp' h r; cases m <;> simp only [rep]
  | sl e t =>
    intro m x c fp fp' h r
    cases m <;> simp only [rep] at r ⊢
    · exact r
    · obtain ⟨A, cap, h1, h2, h3, h4, r⟩ := r
      refine ⟨A, cap, h1, h2, h3, h4, fun a ha => ?_⟩
      obtain ⟨s, r1, r2, fs, r3, r4, r5⟩ := r a ha
      exact ⟨s, h _ r1, r2, fs, r3, fun i b hb => ⟨h _ (r4 i b hb).1, (r4 i b hb).2⟩, r5⟩
    · exact r
  | ptr T t =>
    intro m x c fp fp' h r
    cases m <;> simp only [rep] at r ⊢
    · exact r
    · obtain ⟨A, h1, r⟩ := r
      refine ⟨A, h1, ?_⟩
      cases x with
      | none => exact r
      | some y =>
        obtain ⟨a, ha, s, r1, r2, f, r3, r4⟩ := r
        exact ⟨a, ha, s, h _ r1, r2, f, fun b hb => ⟨h _ (r3 b hb).1, (r3 b hb).2⟩, r4⟩
    · exact r
  | pair a b =>
    intro m x c fp fp' h r
    cases m with
    | j => exact rep_j
    | _ =>
      simp only [rep] at r ⊢
      obtain ⟨fa, fb, h1, h2, h3, r⟩ := r
      exact ⟨fa, fb, fun i hi => h _ (h1 i hi), fun i hi => h _ (h2 i hi), h3, r⟩
  | arr n t =>
    intro m x c fp fp' h r
    cases m with
    | j => exact rep_j
    | _ =>
      simp only [rep] at r ⊢
      obtain ⟨hn, fs, h1, h2, r⟩ := r
      exact ⟨hn, fs, h1, fun i b hb => h _ (h2 i b hb), r⟩

/-- what lies where nothing has changed stays as it is; more may be known to stay -/
theorem rep_frame {F F' : Blks} {w w' : World} (hF : ∀ b, F b → F' b) (hs : ∀ b, F b → Same w w' b) : ∀ {t : Ty} {m : Md} {x : t.I} {c : Cells} {fp : Blks},
    (∀ b, fp b → Same w w' b) → rep F w t m x c fp → rep F' w' t m x c fp := by
  intro t
  induction t with
  | int k => intro m x c fp h r; cases m <;> simp only [rep] at r ⊢ <;> exact r
  | bool => intro m x c fp h r; cases m <;> simp only [rep] at r ⊢ <;> exact r
  | str => intro m x c fp h r; cases m <;> simp only [rep] at r ⊢ <;> exact r
  | unit => intro m x c fp h r; cases m <;> simp only [rep]
  | sl e t ih =>
    intro m x c fp h r
    cases m <;> simp only [rep] at r ⊢
    · obtain ⟨A, cap, h1, h2, h3, h4, r⟩ := r
      refine ⟨A, cap, h1, h2, h3, h4, fun a ha => ?_⟩
      obtain ⟨s, r1, r2⟩ := r a ha
      refine ⟨s, ?_, ?_⟩
      · rcases r1 with r1 | ⟨r1, r3⟩
        · exact .inl r1
        · exact .inr ⟨hF _ r1, (holds_same (hs _ r1)).2 r3⟩
      · intro i hi
        have := ih (fp := fun _ => False) (fun b hb => hb.elim) (r2 i hi)
        rcases r1 with r1 | ⟨r1, r3⟩
        · refine rep_cells (fun j hj => ?_) this
          rcases Nat.mul_eq_zero.1 r1 with h0 | h0
          · omega
          · omega
        · rw [row_same (hs _ r1)]; exact this
    · obtain ⟨A, cap, h1, h2, h3, h4, r⟩ := r
      refine ⟨A, cap, h1, h2, h3, h4, fun a ha => ?_⟩
      obtain ⟨s, r1, r2, fs, r3, r4, r5⟩ := r a ha
      refine ⟨s, r1, (holds_same (h _ r1)).2 r2, fs, r3, r4, fun i hi => ?_⟩
      rw [row_same (h _ r1)]
      exact ih (fun b hb => h _ (r4 i b hb).1) (r5 i hi)
    · exact r
  | ptr T t ih =>
    intro m x c fp h r
    cases m <;> simp only [rep] at r ⊢
    · obtain ⟨A, h1, r⟩ := r
      refine ⟨A, h1, ?_⟩
      cases x with
      | none => exact r
      | some y =>
        obtain ⟨a, ha, s, r1, r2, r3⟩ := r
        refine ⟨a, ha, s, hF _ r1, (holds_same (hs _ r1)).2 r2, ?_⟩
        rw [row_same (hs _ r1)]
        exact ih (fp := fun _ => False) (fun b hb => hb.elim) r3
    · obtain ⟨A, h1, r⟩ := r
      refine ⟨A, h1, ?_⟩
      cases x with
      | none => exact r
      | some y =>
        obtain ⟨a, ha, s, r1, r2, f, r3, r4⟩ := r
        refine ⟨a, ha, s, r1, (holds_same (h _ r1)).2 r2, f, r3, ?_⟩
        rw [row_same (h _ r1)]
        exact ih (fun b hb => h _ (r3 b hb).1) r4
    · obtain ⟨A, h1, r⟩ := r
      refine ⟨A, h1, ?_⟩
      cases x with
      | none => exact r
      | some y => obtain ⟨a, ha, s, r⟩ := r; exact r.elim
  | pair a b iha ihb =>
    intro m x c fp h r
    cases m with
    | j => exact rep_j
    | _ =>
      simp only [rep] at r ⊢
      obtain ⟨fa, fb, h1, h2, h3, r1, r2⟩ := r
      exact ⟨fa, fb, h1, h2, h3, iha (fun b hb => h _ (h1 b hb)) r1, ihb (fun b hb => h _ (h2 b hb)) r2⟩
  | arr n t ih =>
    intro m x c fp h r
    cases m with
    | j => exact rep_j
    | _ =>
      simp only [rep] at r ⊢
      obtain ⟨hn, fs, h1, h2, r⟩ := r
      exact ⟨hn, fs, h1, h2, fun i hi => ih (fun b hb => h _ (h2 i b hb)) (r i hi)⟩

end Go.Trm
