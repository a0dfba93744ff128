import Derived.Test.YtiooemenojlbjaaGreatTrmLens
set_option linter.unusedVariables false
set_option linter.unusedSimpArgs false
namespace Go.Trm

/-! ## What the slots hold -/

/-- a value's cells -/
def cv (v : Value) : Cells := fun j => v.cells.getD j undef

def isV (t : Ty) (v : Value) : Prop := v = valOf t (cv v)

theorem size_one {t : Ty} (h : t.agg = false) : t.size = 1 := by cases t <;> first | rfl | (simp [Ty.agg] at h)

/-- the value of one cell is none of several -/
def one (v : Value) : Prop := v.cells = #[v]

theorem valOf_cv {t : Ty} {c : Cells} (h : t.agg = false → one (c 0)) : ∀ j, j < t.size → cv (valOf t c) j = c j := by
  intro j hj
  unfold valOf
  cases ha : t.agg with
  | false =>
    rw [size_one ha] at hj
    obtain rfl : j = 0 := by omega
    have h1 : (c 0).cells = #[c 0] := h ha
    simp [cv, h1]
  | true => simp [cv, Value.cells, hj]

theorem isV_valOf {t : Ty} {c : Cells} (h : t.agg = false → one (c 0)) : isV t (valOf t c) := by
  unfold isV
  have h1 := valOf_cv h
  cases ha : t.agg with
  | false =>
    have h2 : valOf t c = c 0 := by simp [valOf, ha]
    have h3 : valOf t (cv (valOf t c)) = cv (valOf t c) 0 := by simp [valOf, ha]
    rw [h3, h1 0 (by rw [size_one ha]; omega), h2]
  | true =>
    have h3 : ∀ c', valOf t c' = .agg ((List.range t.size).map c').toArray := fun c' => by simp [valOf, ha]
    rw [h3, h3]
    congr 2
    exact List.map_congr_left fun j hj => by rw [← h3 c]; exact (h1 j (List.mem_range.1 hj)).symm

/-- the cells of a right value are one-celled -/
theorem rep_one {F : Blks} {w : World} {t : Ty} {m : Md} {x : t.I} {c : Cells} {fp : Blks} (h : rep F w t m x c fp) (hm : m ≠ .j) (ha : t.agg = false) : one (c 0) := by
  cases t with
  | int k => cases m <;> simp only [rep] at h <;> first | exact absurd rfl hm | (rw [h.1]; rfl)
  | bool => cases m <;> simp only [rep] at h <;> first | exact absurd rfl hm | (rw [h]; rfl)
  | str => cases m <;> simp only [rep] at h <;> first | exact absurd rfl hm | (rw [h.1]; rfl)
  | sl e t => cases m <;> simp only [rep] at h <;> first | exact absurd rfl hm | (obtain ⟨A, cap, h, _⟩ := h; rw [h]; rfl)
  | ptr e t => cases m <;> simp only [rep] at h <;> first | exact absurd rfl hm | (obtain ⟨A, h, _⟩ := h; rw [h]; rfl)
  | unit => simp [Ty.agg] at ha
  | pair a b => simp [Ty.agg] at ha
  | arr n t => simp [Ty.agg] at ha

end Go.Trm
