import Derived.Test.YtiooemenojlbjaaGreatTrmInl
set_option linter.unusedVariables false
set_option linter.unusedSimpArgs false
namespace Go.Trm

/-! ## What a slot holds, looked at -/

def pEq : List PE → List PE → Bool
  | [], [] => true
  | .fld i :: p, .fld j :: q => Nat.beq i j && pEq p q
  | .der :: p, .der :: q => pEq p q
  | _, _ => false
theorem pEq_eq : ∀ {p q : List PE}, pEq p q = true → p = q
  | [], [], _ => rfl
  | .fld i :: p, .fld j :: q, h => by
    simp only [pEq, Bool.and_eq_true] at h
    rw [Nat.eq_of_beq_eq_true h.1, pEq_eq h.2]
  | .der :: p, .der :: q, h => by rw [pEq_eq (p := p) (q := q) h]
  | [], _ :: _, h => by cases h
  | .fld _ :: _, [], h => by cases h
  | .fld _ :: _, .der :: _, h => by cases h
  | .fld _ :: _, .idx _ :: _, h => by cases h
  | .der :: _, [], h => by cases h
  | .der :: _, .fld _ :: _, h => by cases h
  | .der :: _, .idx _ :: _, h => by cases h
  | .idx _ :: _, _, h => by cases h
def cEq : List (Nat × List PE) → List (Nat × List PE) → Bool
  | [], [] => true
  | (a, p) :: l, (b, q) :: m => Nat.beq a b && (pEq p q && cEq l m)
  | _, _ => false
theorem cEq_eq : ∀ {l m : List (Nat × List PE)}, cEq l m = true → l = m
  | [], [], _ => rfl
  | (a, p) :: l, (b, q) :: m, h => by
    simp only [cEq, Bool.and_eq_true] at h
    rw [Nat.eq_of_beq_eq_true h.1, pEq_eq h.2.1, cEq_eq h.2.2]
  | [], _ :: _, h => by cases h
  | _ :: _, [], h => by cases h

/-- a path with one index in it -/
def pIdx : List PE → List PE → List PE → Option Int
  | [], post, .idx i :: p => match pEq post p with
    | true => some i
    | false => none
  | .fld i :: pr, post, .fld j :: p => match Nat.beq i j with
    | true => pIdx pr post p
    | false => none
  | .der :: pr, post, .der :: p => pIdx pr post p
  | _, _, _ => none
theorem pIdx_eq : ∀ {pr post p : List PE} {i : Int}, pIdx pr post p = some i → p = pr ++ .idx i :: post
  | [], post, .idx j :: p, i, h => by
    simp only [pIdx] at h
    split at h
    · rename_i he
      simp only [Option.some.injEq] at h
      rw [h, pEq_eq he]
      rfl
    · cases h
  | .fld a :: pr, post, .fld b :: p, i, h => by
    simp only [pIdx] at h
    split at h
    · rename_i he
      rw [Nat.eq_of_beq_eq_true he, pIdx_eq h]
      rfl
    · cases h
  | .der :: pr, post, .der :: p, i, h => by
    simp only [pIdx] at h
    rw [pIdx_eq h]
    rfl
  | [], _, [], _, h => by cases h
  | [], _, .fld _ :: _, _, h => by cases h
  | [], _, .der :: _, _, h => by cases h
  | .fld _ :: _, _, [], _, h => by cases h
  | .fld _ :: _, _, .der :: _, _, h => by cases h
  | .fld _ :: _, _, .idx _ :: _, _, h => by cases h
  | .der :: _, _, [], _, h => by cases h
  | .der :: _, _, .fld _ :: _, _, h => by cases h
  | .der :: _, _, .idx _ :: _, _, h => by cases h
  | .idx _ :: _, _, _, _, h => by simp [pIdx] at h

section
variable {R : Type} {res : R}

def mV (t : Ty) (m : Md) (s : SV) (k : t.I → Option R) : Option R := match s with
  | .v t' m' x => match m'.eqb m with
    | true => match castI t' t x with
      | some y => k y
      | none => none
    | false => none
  | _ => none
theorem mV_inv {t : Ty} {m : Md} {s : SV} {k : t.I → Option R} (h : mV t m s k = some res) : ∃ y, s = .v t m y ∧ k y = some res := by
  unfold mV at h
  split at h
  · split at h
    · rename_i he
      split at h
      · rename_i y hc
        obtain ⟨eu, hy⟩ := castI_some hc
        subst eu
        simp only at hy
        subst hy
        exact ⟨_, by rw [Md.eqb_eq he], h⟩
      · cases h
    · cases h
  · cases h
def mP (T : TypeId) (t : Ty) (m : Md) (s : SV) (k : t.I → Option R) : Option R := mV (.ptr T t) m s fun y => match (y : Option t.I) with
  | some c => k c
  | none => none
theorem mP_inv {T : TypeId} {t : Ty} {m : Md} {s : SV} {k : t.I → Option R} (h : mP T t m s k = some res) : ∃ y : t.I, s = .v (.ptr T t) m (some y) ∧ k y = some res := by
  obtain ⟨y, h1, h2⟩ := mV_inv h
  cases y with
  | none => cases h2
  | some c => exact ⟨c, h1, h2⟩
def mAl (r : Nat) (p : List PE) (s : SV) (k : Option R) : Option R := match s with
  | .al r' p' => match Nat.beq r r' && pEq p p' with
    | true => k
    | false => none
  | _ => none
theorem mAl_inv {r : Nat} {p : List PE} {s : SV} {k : Option R} (h : mAl r p s k = some res) : s = .al r p ∧ k = some res := by
  unfold mAl at h
  split at h
  · split at h
    · rename_i he
      simp only [Bool.and_eq_true] at he
      rw [Nat.eq_of_beq_eq_true he.1, pEq_eq he.2]
      exact ⟨rfl, h⟩
    · cases h
  · cases h
def mAl1 (r : Nat) (pr post : List PE) (s : SV) (k : Int → Option R) : Option R := match s with
  | .al r' p' => match Nat.beq r r', pIdx pr post p' with
    | true, some i => k i
    | _, _ => none
  | _ => none
theorem mAl1_inv {r : Nat} {pr post : List PE} {s : SV} {k : Int → Option R} (h : mAl1 r pr post s k = some res) : ∃ i, s = .al r (pr ++ .idx i :: post) ∧ k i = some res := by
  unfold mAl1 at h
  split at h
  · split at h
    · rename_i i he hi
      rw [Nat.eq_of_beq_eq_true he, pIdx_eq hi]
      exact ⟨i, rfl, h⟩
    · cases h
  · cases h
def mLz (r : Nat) (p : List PE) (s : SV) (k : Option R) : Option R := match s with
  | .lz r' p' => match Nat.beq r r' && pEq p p' with
    | true => k
    | false => none
  | _ => none
theorem mLz_inv {r : Nat} {p : List PE} {s : SV} {k : Option R} (h : mLz r p s k = some res) : s = .lz r p ∧ k = some res := by
  unfold mLz at h
  split at h
  · split at h
    · rename_i he
      simp only [Bool.and_eq_true] at he
      rw [Nat.eq_of_beq_eq_true he.1, pEq_eq he.2]
      exact ⟨rfl, h⟩
    · cases h
  · cases h
def mLz1 (r : Nat) (pr post : List PE) (s : SV) (k : Int → Option R) : Option R := match s with
  | .lz r' p' => match Nat.beq r r', pIdx pr post p' with
    | true, some i => k i
    | _, _ => none
  | _ => none
theorem mLz1_inv {r : Nat} {pr post : List PE} {s : SV} {k : Int → Option R} (h : mLz1 r pr post s k = some res) : ∃ i, s = .lz r (pr ++ .idx i :: post) ∧ k i = some res := by
  unfold mLz1 at h
  split at h
  · split at h
    · rename_i i he hi
      rw [Nat.eq_of_beq_eq_true he, pIdx_eq hi]
      exact ⟨i, rfl, h⟩
    · cases h
  · cases h
def mSub (r : Nat) (p : List PE) (s : SV) (k : Int → Int → Option R) : Option R := match s with
  | .sub r' p' lo hi => match Nat.beq r r' && pEq p p' with
    | true => k lo hi
    | false => none
  | _ => none
theorem mSub_inv {r : Nat} {p : List PE} {s : SV} {k : Int → Int → Option R} (h : mSub r p s k = some res) : ∃ lo hi, s = .sub r p lo hi ∧ k lo hi = some res := by
  unfold mSub at h
  split at h
  · split at h
    · rename_i he
      simp only [Bool.and_eq_true] at he
      rw [Nat.eq_of_beq_eq_true he.1, pEq_eq he.2]
      exact ⟨_, _, rfl, h⟩
    · cases h
  · cases h
def mFn (f : FuncId) (a c : List (Nat × List PE)) (s : SV) (k : Option R) : Option R := match s with
  | .fn f' a' c' => match Nat.beq f f' && (cEq a a' && cEq c c') with
    | true => k
    | false => none
  | _ => none
theorem mFn_inv {f : FuncId} {a c : List (Nat × List PE)} {s : SV} {k : Option R} (h : mFn f a c s k = some res) : s = .fn f a c ∧ k = some res := by
  unfold mFn at h
  split at h
  · split at h
    · rename_i he
      simp only [Bool.and_eq_true] at he
      rw [Nat.eq_of_beq_eq_true he.1, cEq_eq he.2.1, cEq_eq he.2.2]
      exact ⟨rfl, h⟩
    · cases h
  · cases h
def mBx (r : Nat) (p : List PE) (s : SV) (k : Option R) : Option R := match s with
  | .bx r' p' => match Nat.beq r r' && pEq p p' with
    | true => k
    | false => none
  | _ => none
theorem mBx_inv {r : Nat} {p : List PE} {s : SV} {k : Option R} (h : mBx r p s k = some res) : s = .bx r p ∧ k = some res := by
  unfold mBx at h
  split at h
  · split at h
    · rename_i he
      simp only [Bool.and_eq_true] at he
      rw [Nat.eq_of_beq_eq_true he.1, pEq_eq he.2]
      exact ⟨rfl, h⟩
    · cases h
  · cases h
def mIfc (T : TypeId) (t : Ty) (s : SV) (k : t.I → Option R) : Option R := match s with
  | .ifc T' t' x => match Nat.beq T T' with
    | true => match castI t' t x with
      | some y => k y
      | none => none
    | false => none
  | _ => none
theorem mIfc_inv {T : TypeId} {t : Ty} {s : SV} {k : t.I → Option R} (h : mIfc T t s k = some res) : ∃ y, s = .ifc T t y ∧ k y = some res := by
  unfold mIfc at h
  split at h
  · split at h
    · rename_i he
      split at h
      · rename_i y hc
        obtain ⟨eu, hy⟩ := castI_some hc
        subst eu
        simp only at hy
        subst hy
        exact ⟨_, by rw [Nat.eq_of_beq_eq_true he], h⟩
      · cases h
    · cases h
  · cases h
def mTup (s : SV) (k : Option R) : Option R := match s with
  | .tup [] => k
  | _ => none
theorem mTup_inv {s : SV} {k : Option R} (h : mTup s k = some res) : s = .tup [] ∧ k = some res := by
  unfold mTup at h
  split at h
  · exact ⟨rfl, h⟩
  · cases h
def mNil (s : SV) (k : Option R) : Option R := match s with
  | .nil => k
  | _ => none
theorem mNil_inv {s : SV} {k : Option R} (h : mNil s k = some res) : s = .nil ∧ k = some res := by
  unfold mNil at h
  split at h
  · exact ⟨rfl, h⟩
  · cases h

end

theorem ofList_cons {st : St} {s : Nat} {v : SV} {l : List (Nat × SV)} {m : List (Nat × Bool)} {z : Bool} (h : st s = v) (h2 : (m.map fun q => (q.1, st q.1)) = l) : (((s, z) :: m).map fun q => (q.1, st q.1)) = (s, v) :: l := by
  simp only [List.map_cons, h, h2]
theorem only_of_list {st : St} {m : List (Nat × Bool)} {l : List (Nat × SV)} (h : (m.map fun q => (q.1, (St.only st (m.map Prod.fst)) q.1)) = l) : St.only st (m.map Prod.fst) = St.ofList l := by
  rw [← h]
  refine (only_only (l := m.map Prod.fst) (st := st)).symm.trans ?_
  show St.ofList ((m.map Prod.fst).map fun s => (s, (St.only st (m.map Prod.fst)) s)) = _
  rw [List.map_map]
  rfl

end Go.Trm
