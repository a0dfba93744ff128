import Derived.Test.YtiooemenojlbjaaGreatTrmSRel
import Derived.Laws.Cells
import Derived.Laws.IdiomCopy
import Derived.Laws.StructEq
set_option linter.unusedVariables false
set_option linter.unusedSimpArgs false
namespace Go.Trm

/-! ## The program's types -/

def dcells : Ty → List Value
  | .int k => [.int k 0]
  | .bool => [.bool false]
  | .str => [.string ⟨#[]⟩]
  | .sl _ _ => [.slice none 0 0]
  | .ptr _ _ => [.pointer none]
  | .unit => []
  | .pair a b => dcells a ++ dcells b
  | .arr n t => (List.replicate n (dcells t)).flatten

theorem dcells_length : ∀ t : Ty, (dcells t).length = t.size
  | .int _ | .bool | .str | .sl _ _ | .ptr _ _ | .unit => rfl
  | .pair a b => by simp [dcells, Ty.size, dcells_length a, dcells_length b]
  | .arr n t => by simp [dcells, Ty.size, dcells_length t]

def iterO (f : List Value → Option (List Value)) : Nat → List Value → Option (List Value)
  | 0, l => some l
  | n + 1, l => match iterO f n l with
    | some l => f l
    | none => none

/-- do values begin with those of a zero of this shape? -/
def zOk : Ty → List Value → Option (List Value)
  | .int k, .int k' n :: l => match kEq k k', n with
    | true, .ofNat 0 => some l
    | _, _ => none
  | .bool, .bool false :: l => some l
  | .str, .string ⟨⟨[]⟩⟩ :: l => some l
  | .sl _ _, .slice none 0 0 :: l => some l
  | .ptr _ _, .pointer none :: l => some l
  | .unit, l => some l
  | .pair a b, l => match zOk a l with
    | some l => zOk b l
    | none => none
  | .arr n t, l => iterO (zOk t) n l
  | _, _ => none

theorem zOk_eq : ∀ {t : Ty} {l l' : List Value}, zOk t l = some l' → l = dcells t ++ l' := by
  intro t
  induction t with
  | int k =>
    intro l l' h
    unfold zOk at h
    split at h <;> try (first | (cases h; done) | contradiction)
    rename_i k0 k1 n0 l0 e1
    cases e1
    split at h
    · rename_i hk
      simp only [Option.some.injEq] at h
      subst h
      rw [kEq_eq hk]
      rfl
    · cases h
  | bool =>
    intro l l' h
    unfold zOk at h
    split at h <;> first | (simp only [Option.some.injEq] at h; subst h; rfl) | (cases h; done) | contradiction
  | str =>
    intro l l' h
    unfold zOk at h
    split at h <;> first | (simp only [Option.some.injEq] at h; subst h; rfl) | (cases h; done) | contradiction
  | sl e t ih =>
    intro l l' h
    unfold zOk at h
    split at h <;> first | (simp only [Option.some.injEq] at h; subst h; rfl) | (cases h; done) | contradiction
  | ptr e t ih =>
    intro l l' h
    unfold zOk at h
    split at h <;> first | (simp only [Option.some.injEq] at h; subst h; rfl) | (cases h; done) | contradiction
  | unit =>
    intro l l' h
    simp only [zOk, Option.some.injEq] at h
    subst h; rfl
  | pair a b iha ihb =>
    intro l l' h
    simp only [zOk] at h
    split at h
    · rename_i l1 h1
      rw [iha h1, ihb h]
      simp [dcells]
    · cases h
  | arr n t ih =>
    intro l l' h
    simp only [zOk] at h
    induction n generalizing l' with
    | zero => simp only [iterO, Option.some.injEq] at h; subst h; simp [dcells]
    | succ n ihn =>
      simp only [iterO] at h
      split at h
      · rename_i l1 h1
        have := ihn h1
        rw [this, ih h]
        simp only [dcells, List.replicate_succ', List.flatten_append, List.flatten_cons, List.flatten_nil, List.append_nil, List.append_assoc]
      · cases h

mutual
/-- is a type of the program of this shape? -/
def wt (P : Program) : Ty → TypeId → Bool
  | .int k, T => base P (.int k) T && (match P.underlying T with | some (.int k') => kEq k k' | _ => false)
  | .bool, T => base P .bool T && (match P.underlying T with | some .bool => true | _ => false)
  | .str, T => base P .str T && (match P.underlying T with | some .string => true | _ => false)
  | .sl e t, T => base P (.sl e t) T && (match P.underlying T with | some (.slice e') => Nat.beq e e' && wt P t e | _ => false)
  | .ptr e t, T => base P (.ptr e t) T && (match P.underlying T with | some (.pointer e') => Nat.beq e e' && wt P t e | _ => false)
  | .unit, T => base P .unit T && (match P.underlying T with | some (.struct fs) => fs.toList.isEmpty | _ => false)
  | .pair a b, T => base P (.pair a b) T && (match P.underlying T with
    | some (.struct fs) => match fs.toList with
      | f :: fs => Nat.beq f.offset 0 && (wt P a f.type && wtF P b fs a.size)
      | [] => false
    | _ => false)
  | .arr n t, T => base P (.arr n t) T && (match P.underlying T with | some (.array n' e) => Nat.beq n n' && wt P t e | _ => false)
def wtF (P : Program) : Ty → List Field → Nat → Bool
  | .unit, fs, _ => fs.isEmpty
  | .pair a b, f :: fs, o => Nat.beq f.offset o && (wt P a f.type && wtF P b fs (o + a.size))
  | _, _, _ => false
/-- its size, its zero -/
def base (P : Program) (t : Ty) (T : TypeId) : Bool := match P.info? T with
  | some i => Nat.beq i.size t.size && (Nat.ble i.bytes 4096 && (match i.zero with
    | some (.agg cs) => t.agg && (match zOk t cs.toList with | some [] => true | _ => false)
    | some v => !t.agg && (match zOk t [v] with | some [] => true | _ => false)
    | none => false))
  | none => false
end

/-- how deep structs lie in one another -/
def Ty.deep : Ty → Nat
  | .pair a b => max (a.deep + 1) b.deep
  | _ => 0

mutual
/-- may two of a type be held against each other, as the evaluator does? -/
def eqT (P : Program) : Ty → TypeId → Bool
  | .int _, _ | .bool, _ | .str, _ => true
  | .unit, T => !P.stoodInHeld T
  | .pair a b, T => !P.stoodInHeld T && (match (P.fieldsOf T).toList with
    | f :: fs => f.name != "_" && (eqT P a f.type && eqF P b fs)
    | [] => false)
  | _, _ => false
def eqF (P : Program) : Ty → List Field → Bool
  | .unit, fs => fs.isEmpty
  | .pair a b, f :: fs => f.name != "_" && (eqT P a f.type && eqF P b fs)
  | _, _ => false
end

section
variable {P : Program} {t : Ty} {T : TypeId}

theorem wt_base (h : wt P t T = true) : base P t T = true := by
  cases t <;> simp only [wt, Bool.and_eq_true] at h <;> exact h.1

/-- what a type's row says -/
theorem wt_info (h : wt P t T = true) : ∃ i z, P.info? T = some i ∧ i.size = t.size ∧ i.bytes ≤ 4096 ∧ i.zero = some z ∧ z = valOf t (fun j => (dcells t).getD j undef) ∧ z.cells = (dcells t).toArray := by
  have hb := wt_base h
  unfold base at hb
  split at hb
  · rename_i i hi
    simp only [Bool.and_eq_true] at hb
    obtain ⟨h1, h2, h3⟩ := hb
    split at h3
    · rename_i cs hz
      simp only [Bool.and_eq_true] at h3
      obtain ⟨ha, h3⟩ := h3
      split at h3
      · rename_i he
        have := zOk_eq he
        simp only [List.append_nil] at this
        have hc : cs = (dcells t).toArray := by rw [← this]
        refine ⟨i, .agg cs, hi, Nat.eq_of_beq_eq_true h1, Nat.le_of_ble_eq_true h2, hz, ?_, hc⟩
        simp only [valOf, ha, if_true]
        rw [hc]
        congr 2
        refine List.ext_getElem (by simp [dcells_length]) fun j h1 h2 => ?_
        simp [List.getD, List.getElem?_eq_getElem h1]
      · cases h3
    · rename_i v hnv hz
      simp only [Bool.and_eq_true, Bool.not_eq_true'] at h3
      obtain ⟨ha, h3⟩ := h3
      split at h3
      · rename_i he
        have := zOk_eq he
        simp only [List.append_nil] at this
        have hv : v = valOf t (fun j => (dcells t).getD j undef) := by simp [valOf, ha, ← this]
        refine ⟨i, v, hi, Nat.eq_of_beq_eq_true h1, Nat.le_of_ble_eq_true h2, hz, hv, ?_⟩
        rw [← this]
        cases v with
        | agg cs => exact absurd hz (by simpa using hnv cs)
        | _ => rfl
      · cases h3
    · cases h3
  · cases hb

theorem wt_agg (h : wt P t T = true) : (match P.underlying T with | some (.struct _) | some (.array _ _) => true | _ => false) = t.agg := by
  cases t <;> simp only [wt, Bool.and_eq_true] at h <;> obtain ⟨_, h⟩ := h <;> split at h <;> first | (rename_i h2; rw [h2]; rfl) | (cases h; done)

theorem wt_int {k : IntKind} (h : wt P (.int k) T = true) : P.underlying T = some (.int k) := by
  simp only [wt, Bool.and_eq_true] at h
  obtain ⟨_, h⟩ := h
  split at h
  · rename_i h2; rw [h2, kEq_eq h]
  · cases h
theorem wt_bool (h : wt P .bool T = true) : P.underlying T = some .bool := by
  simp only [wt, Bool.and_eq_true] at h
  obtain ⟨_, h⟩ := h
  split at h
  · assumption
  · cases h
theorem wt_str (h : wt P .str T = true) : P.underlying T = some .string := by
  simp only [wt, Bool.and_eq_true] at h
  obtain ⟨_, h⟩ := h
  split at h
  · assumption
  · cases h
theorem wt_sl {e : TypeId} {u : Ty} (h : wt P (.sl e u) T = true) : P.underlying T = some (.slice e) ∧ wt P u e = true := by
  simp only [wt, Bool.and_eq_true] at h
  obtain ⟨_, h⟩ := h
  split at h
  · rename_i h2; simp only [Bool.and_eq_true] at h; rw [Nat.eq_of_beq_eq_true h.1]; exact ⟨h2, Nat.eq_of_beq_eq_true h.1 ▸ h.2⟩
  · cases h
theorem wt_ptr {e : TypeId} {u : Ty} (h : wt P (.ptr e u) T = true) : P.underlying T = some (.pointer e) ∧ wt P u e = true := by
  simp only [wt, Bool.and_eq_true] at h
  obtain ⟨_, h⟩ := h
  split at h
  · rename_i h2; simp only [Bool.and_eq_true] at h; rw [Nat.eq_of_beq_eq_true h.1]; exact ⟨h2, Nat.eq_of_beq_eq_true h.1 ▸ h.2⟩
  · cases h
theorem wt_arr {n : Nat} {u : Ty} (h : wt P (.arr n u) T = true) : ∃ e, P.underlying T = some (.array n e) ∧ wt P u e = true := by
  simp only [wt, Bool.and_eq_true] at h
  obtain ⟨_, h⟩ := h
  split at h
  · rename_i h2; simp only [Bool.and_eq_true] at h; rw [Nat.eq_of_beq_eq_true h.1]; exact ⟨_, h2, h.2⟩
  · cases h

/-- a field of a shape: which, and from which cell on -/
def fldT : Ty → Nat → Option (Ty × Nat)
  | .pair a _, 0 => some (a, 0)
  | .pair a b, i + 1 => (fldT b i).map fun q => (q.1, a.size + q.2)
  | _, _ => none

theorem wtF_fld : ∀ {t : Ty} {fs : List Field} {o i : Nat} {u : Ty} {k : Nat}, wtF P t fs o = true → fldT t i = some (u, k) → ∃ f, fs[i]? = some f ∧ f.offset = o + k ∧ wt P u f.type = true := by
  intro t
  induction t with
  | pair a b iha ihb =>
    intro fs o i u k h hf
    cases fs with
    | nil => simp [wtF] at h
    | cons f fs =>
      simp only [wtF, Bool.and_eq_true] at h
      cases i with
      | zero => simp only [fldT, Option.some.injEq, Prod.mk.injEq] at hf; obtain ⟨rfl, rfl⟩ := hf; exact ⟨f, rfl, Nat.eq_of_beq_eq_true h.1, h.2.1⟩
      | succ i =>
        simp only [fldT, Option.map_eq_some_iff] at hf
        obtain ⟨⟨u', k'⟩, hf, he⟩ := hf
        simp only [Prod.mk.injEq] at he
        obtain ⟨rfl, rfl⟩ := he
        obtain ⟨f', h1, h2, h3⟩ := ihb h.2.2 hf
        exact ⟨f', by simpa using h1, by omega, h3⟩
  | _ => intro fs o i u k h hf; simp [fldT] at hf

theorem wt_fld {i k : Nat} {u : Ty} (h : wt P t T = true) (hf : fldT t i = some (u, k)) : ∃ fs f, P.underlying T = some (.struct fs) ∧ fs[i]? = some f ∧ f.offset = k ∧ wt P u f.type = true := by
  cases t with
  | pair a b =>
    simp only [wt, Bool.and_eq_true] at h
    obtain ⟨_, h⟩ := h
    split at h
    · rename_i fs h2
      split at h
      · rename_i f fs' h3
        simp only [Bool.and_eq_true] at h
        refine ⟨fs, ?_⟩
        cases i with
        | zero =>
          simp only [fldT, Option.some.injEq, Prod.mk.injEq] at hf
          obtain ⟨rfl, rfl⟩ := hf
          exact ⟨f, h2, by rw [← Array.getElem?_toList, h3]; rfl, Nat.eq_of_beq_eq_true h.1, h.2.1⟩
        | succ i =>
          simp only [fldT, Option.map_eq_some_iff] at hf
          obtain ⟨⟨u', k'⟩, hf, he⟩ := hf
          simp only [Prod.mk.injEq] at he
          obtain ⟨rfl, rfl⟩ := he
          obtain ⟨f', h4, h5, h6⟩ := wtF_fld h.2.2 hf
          exact ⟨f', h2, by rw [← Array.getElem?_toList, h3]; simpa using h4, h5, h6⟩
      · cases h
    · cases h
  | _ => simp [fldT] at hf

/-- reading a field of data -/
theorem getP_fld : ∀ {t : Ty} {m : Md} {x : t.I} {i : Nat} {u : Ty} {mu : Md} {y : u.I}, getP t m x [.fld i] = some ⟨u, mu, y⟩ → ∃ k, fldT t i = some (u, k) ∧ k + u.size ≤ t.size := by
  intro t
  induction t with
  | pair a b iha ihb =>
    intro m x i u mu y h
    cases i with
    | zero =>
      simp only [getP, Option.some.injEq] at h
      cases h
      exact ⟨0, rfl, by simp [Ty.size]⟩
    | succ i =>
      simp only [getP] at h
      obtain ⟨k, h1, h2⟩ := ihb h
      exact ⟨a.size + k, by simp [fldT, h1], by simp only [Ty.size]; omega⟩
  | _ => intro m x i u mu y h; simp [getP] at h

theorem rs_fld {w : World} : ∀ {t : Ty} {i : Nat} {u : Ty} {k : Nat} {c : Cells} {ad : Option (Nat × Nat)}, fldT t i = some (u, k) →
    rs w t c ad [.fld i] = some (u, (fun j => c (k + j)), ad.map fun q => (q.1, q.2 + k)) := by
  intro t
  induction t with
  | pair a b iha ihb =>
    intro i u k c ad h
    cases i with
    | zero =>
      simp only [fldT, Option.some.injEq, Prod.mk.injEq] at h
      obtain ⟨rfl, rfl⟩ := h
      simp only [rs, Nat.zero_add, Nat.add_zero]
      cases ad <;> rfl
    | succ i =>
      simp only [fldT, Option.map_eq_some_iff] at h
      obtain ⟨⟨u', k'⟩, h, he⟩ := h
      simp only [Prod.mk.injEq] at he
      obtain ⟨rfl, rfl⟩ := he
      simp only [rs]
      rw [ihb h]
      simp only [Option.map_map, Option.some.injEq, Prod.mk.injEq, true_and]
      refine ⟨?_, ?_⟩
      · funext j; rw [Nat.add_assoc]
      · cases ad with
        | none => rfl
        | some q => simp [Nat.add_assoc]
  | _ => intro i u k c ad h; simp [fldT] at h

theorem rs_app {w : World} : ∀ {p q : List PE} {t : Ty} {c : Cells} {ad : Option (Nat × Nat)} {u : Ty} {c' : Cells} {ad' : Option (Nat × Nat)}, rs w t c ad p = some (u, c', ad') → rs w t c ad (p ++ q) = rs w u c' ad' q := by
  intro p q t
  induction t generalizing p with
  | sl e t ih => intro c ad u c' ad' h; cases p with
    | nil => simp only [rs, Option.some.injEq, Prod.mk.injEq] at h; obtain ⟨rfl, rfl, rfl⟩ := h; rfl
    | cons z p => cases z with
      | idx i => simp only [rs, List.cons_append] at h ⊢; split at h
                 · exact ih h
                 · cases h
      | _ => simp [rs] at h
  | ptr e t ih => intro c ad u c' ad' h; cases p with
    | nil => simp only [rs, Option.some.injEq, Prod.mk.injEq] at h; obtain ⟨rfl, rfl, rfl⟩ := h; rfl
    | cons z p => cases z with
      | der => simp only [rs, List.cons_append] at h ⊢; split at h
               · exact ih h
               · cases h
      | _ => simp [rs] at h
  | arr n t ih => intro c ad u c' ad' h; cases p with
    | nil => simp only [rs, Option.some.injEq, Prod.mk.injEq] at h; obtain ⟨rfl, rfl, rfl⟩ := h; rfl
    | cons z p => cases z with
      | idx i => simp only [rs, List.cons_append] at h ⊢; exact ih h
      | _ => simp [rs] at h
  | pair a b iha ihb => intro c ad u c' ad' h; cases p with
    | nil => simp only [rs, Option.some.injEq, Prod.mk.injEq] at h; obtain ⟨rfl, rfl, rfl⟩ := h; rfl
    | cons z p => cases z with
      | fld n => cases n with
        | zero => simp only [rs, List.cons_append] at h ⊢; exact iha h
        | succ n => simp only [rs, List.cons_append] at h ⊢; exact ihb (p := .fld n :: p) h
      | _ => simp [rs] at h
  | _ => intro c ad u c' ad' h; cases p with
    | nil => simp only [rs, Option.some.injEq, Prod.mk.injEq] at h; obtain ⟨rfl, rfl, rfl⟩ := h; rfl
    | cons z p => simp [rs] at h

theorem getP_app : ∀ {p q : List PE} {t : Ty} {m : Md} {x : t.I} {u : Ty} {mu : Md} {y : u.I}, getP t m x p = some ⟨u, mu, y⟩ → getP t m x (p ++ q) = getP u mu y q := by
  intro p q t
  induction t generalizing p with
  | sl e t ih => intro m x u mu y h; cases p with
    | nil => simp only [getP, Option.some.injEq] at h; cases h; rfl
    | cons z p => cases z with
      | idx i => simp only [getP, List.cons_append] at h ⊢; exact ih h
      | _ => simp [getP] at h
  | ptr e t ih => intro m x u mu y h; cases p with
    | nil => simp only [getP, Option.some.injEq] at h; cases h; rfl
    | cons z p => cases z with
      | der =>
        cases x with
        | none => simp [getP] at h
        | some x => simp only [getP, List.cons_append] at h ⊢; exact ih h
      | _ => simp [getP] at h
  | arr n t ih => intro m x u mu y h; cases p with
    | nil => simp only [getP, Option.some.injEq] at h; cases h; rfl
    | cons z p => cases z with
      | idx i => simp only [getP, List.cons_append] at h ⊢; exact ih h
      | _ => simp [getP] at h
  | pair a b iha ihb => intro m x u mu y h; cases p with
    | nil => simp only [getP, Option.some.injEq] at h; cases h; rfl
    | cons z p => cases z with
      | fld n => cases n with
        | zero => simp only [getP, List.cons_append] at h ⊢; exact iha h
        | succ n => simp only [getP, List.cons_append] at h ⊢; exact ihb (p := .fld n :: p) h
      | _ => simp [getP] at h
  | _ => intro m x u mu y h; cases p with
    | nil => simp only [getP, Option.some.injEq] at h; cases h; rfl
    | cons z p => simp [getP] at h

theorem inP_app : ∀ {p q : List PE} {t : Ty} {m : Md} {x : t.I} {u : Ty} {mu : Md} {y : u.I}, getP t m x p = some ⟨u, mu, y⟩ → inP t x p → inP u y q → inP t x (p ++ q) := by
  intro p q t
  induction t generalizing p with
  | sl e t ih => intro m x u mu y h h1 h2; cases p with
    | nil => simp only [getP, Option.some.injEq] at h; cases h; exact h2
    | cons z p => cases z with
      | idx i => simp only [getP] at h; simp only [inP, List.cons_append] at h1 ⊢; exact ⟨h1.1, ih h h1.2 h2⟩
      | _ => simp [getP] at h
  | ptr e t ih => intro m x u mu y h h1 h2; cases p with
    | nil => simp only [getP, Option.some.injEq] at h; cases h; exact h2
    | cons z p => cases z with
      | der =>
        cases x with
        | none => simp [getP] at h
        | some x => simp only [getP] at h; simp only [inP, List.cons_append] at h1 ⊢; exact ih h h1 h2
      | _ => simp [getP] at h
  | arr n t ih => intro m x u mu y h h1 h2; cases p with
    | nil => simp only [getP, Option.some.injEq] at h; cases h; exact h2
    | cons z p => cases z with
      | idx i => simp only [getP] at h; simp only [inP, List.cons_append] at h1 ⊢; exact ⟨h1.1, ih h h1.2 h2⟩
      | _ => simp [getP] at h
  | pair a b iha ihb => intro m x u mu y h h1 h2; cases p with
    | nil => simp only [getP, Option.some.injEq] at h; cases h; exact h2
    | cons z p => cases z with
      | fld n => cases n with
        | zero => simp only [getP] at h; simp only [inP, List.cons_append] at h1 ⊢; exact iha h h1 h2
        | succ n => simp only [getP] at h; simp only [inP, List.cons_append] at h1 ⊢; exact ihb (p := .fld n :: p) h h1 h2
      | _ => simp [getP] at h
  | _ => intro m x u mu y h h1 h2; cases p with
    | nil => simp only [getP, Option.some.injEq] at h; cases h; exact h2
    | cons z p => simp [getP] at h

theorem ownP_app : ∀ {p q : List PE} {t : Ty} {m : Md} {x : t.I} {u : Ty} {mu : Md} {y : u.I}, getP t m x p = some ⟨u, mu, y⟩ → ownP t m p → ownP u mu q → ownP t m (p ++ q) := by
  intro p q t
  induction t generalizing p with
  | sl e t ih => intro m x u mu y h h1 h2; cases p with
    | nil => simp only [getP, Option.some.injEq] at h; cases h; exact h2
    | cons z p => cases z with
      | idx i =>
        cases m with
        | o m => simp only [getP] at h; simp only [ownP, List.cons_append] at h1 ⊢; exact ih h h1 h2
        | _ => simp [ownP] at h1
      | _ => simp [getP] at h
  | ptr e t ih => intro m x u mu y h h1 h2; cases p with
    | nil => simp only [getP, Option.some.injEq] at h; cases h; exact h2
    | cons z p => cases z with
      | der =>
        cases m with
        | o m =>
          cases x with
          | none => simp [getP] at h
          | some x => simp only [getP] at h; simp only [ownP, List.cons_append] at h1 ⊢; exact ih h h1 h2
        | _ => simp [ownP] at h1
      | _ => simp [getP] at h
  | arr n t ih => intro m x u mu y h h1 h2; cases p with
    | nil => simp only [getP, Option.some.injEq] at h; cases h; exact h2
    | cons z p => cases z with
      | idx i => simp only [getP] at h; simp only [ownP, List.cons_append] at h1 ⊢; exact ⟨h1.1, ih h h1.2 h2⟩
      | _ => simp [getP] at h
  | pair a b iha ihb => intro m x u mu y h h1 h2; cases p with
    | nil => simp only [getP, Option.some.injEq] at h; cases h; exact h2
    | cons z p => cases z with
      | fld n => cases n with
        | zero => simp only [getP] at h; simp only [ownP, List.cons_append] at h1 ⊢; exact iha h h1 h2
        | succ n => simp only [getP] at h; simp only [ownP, List.cons_append] at h1 ⊢; exact ihb (p := .fld n :: p) h h1 h2
      | _ => simp [getP] at h
  | _ => intro m x u mu y h h1 h2; cases p with
    | nil => simp only [getP, Option.some.injEq] at h; cases h; exact h2
    | cons z p => simp [getP] at h

end
end Go.Trm
