import Derived.Test.YtiooemenojlbjaaGreatTrmLift
import Derived.Deep.Slices
set_option linter.unusedVariables false
set_option linter.unusedSimpArgs false
namespace Go.Trm
open Go.ChangeShapes Go.WideShapes Go.ChangeAt Go.RowKit Go.Deep

/-! Arguments of any shape that holds strings, numbers, structs, rows and pointers. -/

/-- what a row or a pointer leads to has cells -/
def Ty.pos : Ty → Bool
  | .sl _ t => Nat.blt 0 t.size && t.pos
  | .ptr _ t => Nat.blt 0 t.size && t.pos
  | .pair a b => a.pos && b.pos
  | .arr _ _ => false
  | _ => true

/-- what is known of data because a machine can hold it -/
def okI : (t : Ty) → t.I → Prop
  | .int k, x => k.has x
  | .str, (x : List UInt8) => x.length ≤ 2 ^ 63 - 1
  | .sl _ t, (x : List t.I) => x.length ≤ 2 ^ 63 - 1 ∧ ∀ y ∈ x, okI t y
  | .ptr _ t, (x : Option t.I) => ∀ y, x = some y → okI t y
  | .pair a b, x => okI a x.1 ∧ okI b x.2
  | .arr n t, (x : List t.I) => x.length = n ∧ ∀ y ∈ x, okI t y
  | _, _ => True

theorem cellsOf_of {P : Program} {t : Ty} {T : TypeId} (h : wt P t T = true) : P.cellsOf T = t.size := by
  obtain ⟨i, z, h1, h2, _⟩ := wt_info h
  simp only [Program.cellsOf, h1, Option.map_some, Option.getD_some, h2]

section
variable {H : Type} {enc : TypeId × Value → H} {P : Program} {w : World} {held : Bool}

abbrev Reads (enc : TypeId × Value → H) (P : Program) (w : World) (held : Bool) (t : Ty) (cs : List Value) : Prop :=
  ∃ y : t.I, okI t y ∧ ∀ c : Cells, (∀ j, j < t.size → cs[j]? = some (c j)) → rep (oldB w) w t .s y c (fun _ => False)

theorem take_drop_get {l : List Value} {o k j : Nat} (h : j < k) : ((l.drop o).take k)[j]? = l[o + j]? := by
  rw [List.getElem?_take, if_pos h, List.getElem?_drop]

theorem spot_none {a : Addr} {n : Nat} {cs : List Value} (hn : 0 < n) (h : w.cells? 0 a n = some cs) : a.spot = none := by
  obtain ⟨_, hl, hc⟩ := World.cells?_some h
  have h0 := hc 0 hn
  rw [List.getElem?_eq_getElem (by omega)] at h0
  unfold World.cell? at h0
  simp only [Addr.add, if_true] at h0
  split at h0
  · split at h0
    · cases h0
    · rename_i hs
      simpa using hs
  · cases h0

theorem cells_row {a : Addr} {i n : Nat} {cs : List Value} (hs : a.spot = none) (h : w.cells? 0 (a.add i) n = some cs) (hn : 0 < n) :
    (∃ c e fz, w.heap[a.block]? = some (.cells c e fz) ∧ a.off + i + n ≤ c.size) ∧ ∀ j, j < n → cs[j]? = some (rowW w a.block (a.off + i) j) := by
  obtain ⟨_, hl, hc⟩ := World.cells?_some h
  have key : ∀ j, j < n → (∃ c e fz, w.heap[a.block]? = some (.cells c e fz) ∧ a.off + (i + j) < c.size) ∧ cs[j]? = some (rowW w a.block (a.off + i) j) := by
    intro j hj
    have h1 := hc j hj
    rw [add_add, List.getElem?_eq_getElem (by omega)] at h1
    obtain ⟨h2, h3⟩ := cell_row0 hs h1
    refine ⟨h2, ?_⟩
    rw [List.getElem?_eq_getElem (by omega), rowW_at, ← h3, rowW_at, Nat.add_zero, Nat.add_assoc]
  refine ⟨?_, fun j hj => (key j hj).2⟩
  obtain ⟨⟨c, e, fz, h1, h2⟩, _⟩ := key (n - 1) (by omega)
  exact ⟨c, e, fz, h1, by omega⟩

theorem trod_rep : ∀ (t : Ty), t.pos = true →
    (∀ {T : TypeId} {n : Nat} {cs : List Value} {x}, wt P t T = true → DataW.trod enc P w 0 (fun _ => true) held n T cs = some x → cs.length = t.size ∧ Reads enc P w held t cs) ∧
    (∀ {fs : List Field} {o n : Nat} {cs : List Value}, wtF P t fs o = true → (∀ f ∈ fs, ∃ x, DataW.trod enc P w 0 (fun _ => true) held n f.type ((cs.drop f.offset).take (P.cellsOf f.type)) = some x) →
      ∃ y : t.I, okI t y ∧ ∀ c : Cells, (∀ j, j < t.size → cs[o + j]? = some (c j)) → rep (oldB w) w t .s y c (fun _ => False)) := by
  intro t
  induction t with
  | int k =>
    intro _
    refine ⟨fun hw h => ?_, fun h => by simp [wtF] at h⟩
    obtain ⟨n, rfl, _, hf⟩ := DataW.trod_int (wt_int hw) h
    refine ⟨rfl, n, wf_has hf, fun c hc => ?_⟩
    have := hc 0 (by simp [Ty.size])
    simp only [List.getElem?_cons_zero, Option.some.injEq] at this
    exact ⟨this.symm, wf_has hf⟩
  | bool =>
    intro _
    refine ⟨fun hw h => ?_, fun h => by simp [wtF] at h⟩
    obtain ⟨n, rfl, _⟩ := DataW.trod_bool (wt_bool hw) h
    refine ⟨rfl, n, trivial, fun c hc => ?_⟩
    have := hc 0 (by simp [Ty.size])
    simp only [List.getElem?_cons_zero, Option.some.injEq] at this
    exact this.symm
  | str =>
    intro _
    refine ⟨fun hw h => ?_, fun h => by simp [wtF] at h⟩
    obtain ⟨s, rfl, _, hs⟩ := DataW.trod_string (wt_str hw) h
    have h1 : s.data.toList.length = s.size := Array.length_toList
    have h2 : maxLen = 2 ^ 63 - 1 := by decide
    have h3 : s.data.toList.length ≤ 2 ^ 63 - 1 := by omega
    refine ⟨rfl, s.data.toList, h3, fun c hc => ?_⟩
    have := hc 0 (by simp [Ty.size])
    simp only [List.getElem?_cons_zero, Option.some.injEq] at this
    refine ⟨?_, h3⟩
    exact this.symm
  | sl e t ih =>
    intro hp
    simp only [Ty.pos, Bool.and_eq_true] at hp
    have hpos : 0 < t.size := Nat.le_of_ble_eq_true hp.1
    refine ⟨fun hw h => ?_, fun h => by simp [wtF] at h⟩
    obtain ⟨g1, g2⟩ := wt_sl hw
    have hm : maxLen = 2 ^ 63 - 1 := by decide
    rcases open_slice g1 h with ⟨rfl, _⟩ | ⟨a, len, cap, m, n, D, Pl, rfl, _, hl, hcm, hmm, _, hx⟩
    · refine ⟨rfl, ([] : List t.I), ⟨by simp, by simp⟩, fun c hc => ?_⟩
      have := hc 0 (by simp [Ty.size])
      simp only [List.getElem?_cons_zero, Option.some.injEq] at this
      exact ⟨none, 0, this.symm, Nat.le_refl _, by omega, fun _ => rfl, nofun⟩
    · simp only [if_true] at hmm
      subst hmm
      rw [cellsOf_of g2] at hx
      have each : ∀ i, ∃ y : t.I, i < len → okI t y ∧ rep (oldB w) w t .s y (rowW w a.block (a.off + i * t.size)) (fun _ => False) := by
        intro i
        by_cases hi : i < len
        · obtain ⟨cs', h1, h2⟩ := hx i (by omega)
          have hs : a.spot = none := by
            obtain ⟨cs0, h3, _⟩ := hx 0 (by omega)
            rw [Nat.zero_mul] at h3
            exact spot_none hpos h3
          obtain ⟨_, y, hy, hr⟩ := (ih hp.2).1 g2 h2
          exact ⟨y, fun _ => ⟨hy, hr _ (cells_row hs h1 hpos).2⟩⟩
        · exact ⟨t.dflt, fun hc => absurd hc hi⟩
      obtain ⟨f, hf⟩ := Classical.axiomOfChoice each
      have hg : ∀ i, i < len → ((List.range len).map f).getD i t.dflt = f i := fun i hi => by simp [List.getD, hi]
      have hlen : ((List.range len).map f).length = len := by simp
      refine ⟨rfl, (List.range len).map f, ⟨by show ((List.range len).map f).length ≤ _; rw [hlen]; omega, fun y hy => ?_⟩, fun c hc => ?_⟩
      · obtain ⟨i, hi, rfl⟩ := List.mem_map.1 hy
        exact (hf i (List.mem_range.1 hi)).1
      · have := hc 0 (by simp [Ty.size])
        simp only [List.getElem?_cons_zero, Option.some.injEq] at this
        simp only [rep]
        rw [hlen]
        refine ⟨some a, m, this.symm, hl, by omega, nofun, fun a' ha' => ?_⟩
        cases ha'
        refine ⟨fun h0 => ?_, ?_, fun i hi => ?_⟩
        · obtain ⟨cs0, h3, _⟩ := hx 0 h0
          rw [Nat.zero_mul] at h3
          exact spot_none hpos h3
        · by_cases h0 : len = 0
          · left; rw [h0, Nat.zero_mul]
          · right
            obtain ⟨cs', h1, h2⟩ := hx (len - 1) (by omega)
            have hs : a.spot = none := by
              obtain ⟨cs0, h3, _⟩ := hx 0 (by omega)
              rw [Nat.zero_mul] at h3
              exact spot_none hpos h3
            obtain ⟨⟨c, e1, fz, k1, k2⟩, _⟩ := cells_row hs h1 hpos
            refine ⟨(Array.getElem?_eq_some_iff.1 k1).1, c, e1, fz, k1, ?_, nofun⟩
            have : (len - 1) * t.size + t.size = len * t.size := by
              rw [← Nat.succ_mul]; congr 1; omega
            omega
        · rw [hg i hi]
          exact (hf i hi).2
  | ptr e t ih =>
    intro hp
    simp only [Ty.pos, Bool.and_eq_true] at hp
    have hpos : 0 < t.size := Nat.le_of_ble_eq_true hp.1
    refine ⟨fun hw h => ?_, fun h => by simp [wtF] at h⟩
    obtain ⟨g1, g2⟩ := wt_ptr hw
    rcases DataW.trod_pointer g1 h with ⟨rfl, _⟩ | ⟨a, cs', z, n, _, rfl, _, h1, h2⟩
    · refine ⟨rfl, (none : Option t.I), nofun, fun c hc => ?_⟩
      have := hc 0 (by simp [Ty.size])
      simp only [List.getElem?_cons_zero, Option.some.injEq] at this
      exact ⟨none, this.symm, rfl⟩
    · rw [cellsOf_of g2] at h1
      have hs := spot_none hpos h1
      obtain ⟨_, y, hy, hr⟩ := (ih hp.2).1 g2 h2
      have h1' : w.cells? 0 (a.add 0) t.size = some cs' := by rw [show a.add 0 = a from rfl]; exact h1
      obtain ⟨⟨c1, e1, fz, k1, k2⟩, k3⟩ := cells_row hs h1' hpos
      refine ⟨rfl, some y, fun y' hy' => by cases hy'; exact hy, fun c hc => ?_⟩
      have := hc 0 (by simp [Ty.size])
      simp only [List.getElem?_cons_zero, Option.some.injEq] at this
      refine ⟨some a, this.symm, a, rfl, hs, (Array.getElem?_eq_some_iff.1 k1).1, ⟨c1, e1, fz, k1, k2, nofun⟩, hr _ k3⟩
  | unit =>
    intro _
    refine ⟨fun hw h => ?_, fun h _ => ⟨(), trivial, fun _ _ => trivial⟩⟩
    have hc := cellsOf_of hw
    simp only [wt, Bool.and_eq_true] at hw
    obtain ⟨_, hw⟩ := hw
    split at hw
    · rename_i fs hu
      obtain ⟨_, _, _, _, hl, _⟩ := DataW.trod_struct hu h
      exact ⟨by rw [hl, hc], (), trivial, fun _ _ => trivial⟩
    · cases hw
  | pair a b iha ihb =>
    intro hp
    simp only [Ty.pos, Bool.and_eq_true] at hp
    have hB : ∀ {fs : List Field} {o n : Nat} {cs : List Value}, wtF P (.pair a b) fs o = true → (∀ f ∈ fs, ∃ x, DataW.trod enc P w 0 (fun _ => true) held n f.type ((cs.drop f.offset).take (P.cellsOf f.type)) = some x) →
        ∃ y : (Ty.pair a b).I, okI (.pair a b) y ∧ ∀ c : Cells, (∀ j, j < (Ty.pair a b).size → cs[o + j]? = some (c j)) → rep (oldB w) w (.pair a b) .s y c (fun _ => False) := by
      intro fs o n cs h hx
      cases fs with
      | nil => simp [wtF] at h
      | cons f fs =>
        simp only [wtF, Bool.and_eq_true] at h
        obtain ⟨h1, h2, h3⟩ := h
        have h1 := Nat.eq_of_beq_eq_true h1
        obtain ⟨x, h4⟩ := hx f (by simp)
        rw [h1, cellsOf_of h2] at h4
        obtain ⟨_, y1, hy1, hr1⟩ := (iha hp.1).1 h2 h4
        obtain ⟨y2, hy2, hr2⟩ := (ihb hp.2).2 h3 (fun g hg => hx g (by simp [hg]))
        refine ⟨(y1, y2), ⟨hy1, hy2⟩, fun c hc => ⟨fun _ => False, fun _ => False, fun _ h => h.elim, fun _ h => h.elim, fun _ h => h.elim, hr1 _ fun j hj => ?_, hr2 _ fun j hj => ?_⟩⟩
        · rw [take_drop_get hj]
          exact hc j (by simp only [Ty.size]; omega)
        · rw [Nat.add_assoc]
          exact hc _ (by simp only [Ty.size]; omega)
    refine ⟨fun {T n cs x} hw h => ?_, hB⟩
    have hc := cellsOf_of hw
    simp only [wt, Bool.and_eq_true] at hw
    obtain ⟨_, hw⟩ := hw
    split at hw
    · rename_i fs hu
      obtain ⟨xs, n', _, _, hl, hxl, hx⟩ := DataW.trod_struct hu h
      split at hw
      · rename_i f fs' hfs
        have hw' : wtF P (.pair a b) fs.toList 0 = true := by
          rw [hfs]
          simp only [wtF, Nat.zero_add]
          exact hw
        obtain ⟨y, hy, hr⟩ := hB (n := n') (cs := cs) hw' (fun g hg => by
          obtain ⟨i, hi, hgi⟩ := List.mem_iff_getElem.1 hg
          have h5 : i < fs.size := by simpa using hi
          have h6 := hx i g (by rw [Array.getElem?_eq_getElem h5, ← hgi]; rfl)
          rw [List.getElem?_eq_getElem (by omega)] at h6
          exact ⟨_, h6⟩)
        exact ⟨by rw [hl, hc], y, hy, fun c hc => hr c (fun j hj => by rw [Nat.zero_add]; exact hc j hj)⟩
      · cases hw
    · cases hw
  | arr n t ih => intro hp; cases hp

end

/-- an argument that is a row -/
theorem arg_sl {H : Type} {enc : TypeId × Value → H} {P : Program} {w : World} {r : Reach} {base : Nat} {held : Bool} {T e : TypeId} {t : Ty} {v : Value} {d : DataW H} {ps : List MemPlace}
    (hw : wt P (.sl e t) T = true) (hp : (Ty.sl e t).pos = true) (hval : Value.okWide P w r base T v) (h : DataW.Trod enc P w 0 (fun _ => true) held T v d ps) :
    ∃ x : (Ty.sl e t).I, (isV (.sl e t) v ∧ Md.s ≠ .j ∧ rep (oldB w) w (.sl e t) .s x (cv v) (fun _ => False)) ∧ okI (.sl e t) x := by
  obtain ⟨A, len, cap, rfl⟩ := okWide_slice (wt_sl hw).1 hval
  obtain ⟨n, h⟩ := h
  obtain ⟨_, y, hy, hr⟩ := (trod_rep _ hp).1 hw h
  refine ⟨y, ⟨rfl, nofun, hr _ fun j hj => ?_⟩, hy⟩
  have : j = 0 := by simp only [Ty.size] at hj; omega
  subst this
  rfl

/-- an argument that is a struct -/
theorem arg_st {H : Type} {enc : TypeId × Value → H} {P : Program} {w : World} {r : Reach} {base : Nat} {held : Bool} {T : TypeId} {a b : Ty} {v : Value} {d : DataW H} {ps : List MemPlace}
    (hw : wt P (.pair a b) T = true) (hp : (Ty.pair a b).pos = true) (hval : Value.okWide P w r base T v) (h : DataW.Trod enc P w 0 (fun _ => true) held T v d ps) :
    ∃ x : (Ty.pair a b).I, (isV (.pair a b) v ∧ Md.s ≠ .j ∧ rep (oldB w) w (.pair a b) .s x (cv v) (fun _ => False)) ∧ okI (.pair a b) x := by
  obtain ⟨n, h⟩ := h
  obtain ⟨hl, y, hy, hr⟩ := (trod_rep _ hp).1 hw h
  have hag := wt_agg hw
  have hv : ∃ cs, v = .agg cs := by
    unfold Value.okWide at hval
    simp only [Ty.agg] at hag
    split at hag
    · rename_i hu; rw [hu] at hval; obtain ⟨cs, h1, _⟩ := hval; exact ⟨cs, h1⟩
    · rename_i hu; rw [hu] at hval; obtain ⟨cs, h1, _⟩ := hval; exact ⟨cs, h1⟩
    · cases hag
  obtain ⟨⟨l⟩, rfl⟩ := hv
  have hl' : l.length = (Ty.pair a b).size := hl
  have hc : ∀ j, j < (Ty.pair a b).size → l[j]? = some (cv (.agg ⟨l⟩) j) := by
    intro j hj
    show l[j]? = some ((⟨l⟩ : Array Value).getD j undef)
    rw [List.getElem?_eq_getElem (by omega)]
    simp [Array.getD, hl', hj]
  refine ⟨y, ⟨?_, nofun, hr _ hc⟩, hy⟩
  show Value.agg ⟨l⟩ = .agg _
  congr 1
  apply congrArg Array.mk
  refine List.ext_getElem? fun j => ?_
  by_cases hj : j < (Ty.pair a b).size
  · rw [hc j hj]; simp [hj]
  · rw [List.getElem?_eq_none (by omega), List.getElem?_eq_none (by simp; omega)]

end Go.Trm
