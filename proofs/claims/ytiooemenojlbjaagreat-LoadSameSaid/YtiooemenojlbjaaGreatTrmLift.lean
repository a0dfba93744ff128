import Derived.Test.YtiooemenojlbjaaGreatTrmInl
import Derived.WalkKit
import Derived.ProofKit
import Derived.OpenShut
import Derived.ShutString
import Derived.ChangeOld
import Derived.Below
import Derived.SizedLaws
set_option linter.unusedVariables false
set_option linter.unusedSimpArgs false
namespace Go.Trm
open Go.ChangeShapes Go.WideShapes Go.ChangeAt Go.RowKit
open Go.ChangeMaps (open_string shut_string)

/-- all that lies in memory as the call begins -/
def oldB (w : World) : Blks := fun b => b < w.heap.size

/-- a law that answers true -/
abbrev Yes : Bool → Option Unit := fun r => cond r (some ()) none

theorem law_calls {P : Program} {f : FuncId} {ins : List PK} {fn : {R : Type} → DI ins → (DR [(.bool, .s)] → DB ins → Option R) → (PI none → DB ins → Option R) → Option R} (H : Holds P f ⟨ins, [(.bool, .s)], none, fn⟩) {w : World} {d : DI ins} {vs : List Value}
    (ha : ArgsR (oldB w) w ins d vs (fun _ _ => False)) (hp : fn d (fun r _ => Yes r.1) (fun _ _ => none) = some ()) :
    Calls P f vs.toArray w fun e w' => e = .returned (.bool true) ∧ Below w.heap.size w w' := by
  refine (H.calls (oldB w) w d vs (fun _ _ => False) Unit (fun r _ => Yes r.1) (fun _ _ => none) () (fun _ hb => hb) ⟨fun _ _ _ _ hb => hb.elim⟩ (fun _ _ hb => hb.elim) ha hp).mono fun e w' hpost => ?_
  obtain ⟨rb, F', fo, fb, ⟨v, ro, rfl, p1, p5⟩ | ⟨_, _, _, hc, _⟩, p2, p3, p4, _⟩ := hpost
  case inr => cases hc
  refine ⟨?_, p3.still.os, p3.still.tape, p3.still.output, p3.size, fun k hk => p4 k hk (fun _ hc => hc)⟩
  have hr : ro.1 = true := by
    unfold Yes at p1
    cases h : ro.1 with
    | true => rfl
    | false => rw [h] at p1; cases p1
  have h5 : svR F' w' (fun _ => .un) (fun _ => undef) fo v (.v .bool .s ro.1) := p5
  rw [hr] at h5
  have h1 : cv v 0 = .bool true := h5.2
  have h2 : v = valOf .bool (cv v) := h5.1 (by intro hc; cases hc)
  rw [h2]
  show Ending.returned (cv v 0) = _
  rw [h1]

theorem arg_str {F : Blks} {w : World} {fp : Blks} (a : ByteArray) (h : a.size ≤ maxLen) : isV .str (.string a) ∧ Md.s ≠ .j ∧ rep F w .str .s a.data.toList (cv (.string a)) fp :=
  ⟨rfl, (by intro h; cases h), by
    refine ⟨?_, ?_⟩
    · show Value.string a = .string ⟨a.data.toList.toArray⟩
      rw [Array.toArray_toList]
    · have h1 : a.data.toList.length = a.size := Array.length_toList
      have h2 : maxLen = 2 ^ 63 - 1 := by decide
      have h3 : a.data.toList.length ≤ 2 ^ 63 - 1 := by rw [h1, ← h2]; exact h
      exact h3⟩

theorem arg_bool {F : Blks} {w : World} {fp : Blks} (a : Bool) : isV .bool (.bool a) ∧ Md.s ≠ .j ∧ rep F w .bool .s a (cv (.bool a)) fp := ⟨rfl, (by intro h; cases h), rfl⟩

theorem wf_has {k : IntKind} {n : Int} (h : (Lit.int k n).wf = true) : k.has n := by
  simp only [Lit.wf, Bool.and_eq_true, decide_eq_true_eq] at h
  exact h

theorem arg_int {F : Blks} {w : World} {fp : Blks} {k : IntKind} (a : Int) (h : (Lit.int k a).wf = true) : isV (.int k) (.int k a) ∧ Md.s ≠ .j ∧ rep F w (.int k) .s a (cv (.int k a)) fp := ⟨rfl, (by intro h; cases h), rfl, wf_has h⟩

theorem cell_row0 {w : World} {a : Addr} {i : Nat} {v : Value} (hs : a.spot = none) (h : w.cell? (a.add i) = some v) : (∃ cs e fz, w.heap[a.block]? = some (.cells cs e fz) ∧ a.off + i < cs.size) ∧ rowW w a.block (a.off + i) 0 = v := by
  obtain ⟨b, o, sp⟩ := a
  simp only at hs
  subst hs
  rw [addr_add] at h
  unfold World.cell? at h
  simp only at h ⊢
  split at h
  · rename_i c e fz hh
    simp only [Option.isSome_none, Bool.false_eq_true, if_false] at h
    have h1 := (Array.getElem?_eq_some_iff.1 h).1
    refine ⟨⟨c, e, fz, hh, h1⟩, ?_⟩
    simp only [rowW, hh, rowOf, Nat.add_zero, Array.getD_eq_getD_getElem?, h, Option.getD_some]
  · cases h

theorem arg_ints {H : Type} {enc : TypeId × Value → H} {P : Program} {w : World} {r : Reach} {base b0 : Nat} {sp : Nat → Bool} {held : Bool} {t e : TypeId} {k : IntKind} {v : Value} {d : DataW H} {ps : List MemPlace}
    (ht : P.underlying t = some (.slice e)) (he : P.underlying e = some (.int k)) (hc : P.cellsOf e = 1) (hval : Value.okWide P w r base t v) (h : DataW.Trod enc P w b0 sp held t v d ps) :
    ∃ x : List Int, (isV (.sl e (.int k)) v ∧ Md.s ≠ .j ∧ rep (oldB w) w (.sl e (.int k)) .s x (cv v) (fun _ => False)) ∧ x.length ≤ maxLen ∧ ∀ n ∈ x, k.has n := by
  obtain ⟨A, len, cap, rfl⟩ := okWide_slice ht hval
  have hm : maxLen = 2 ^ 63 - 1 := by decide
  obtain ⟨fuel, hf⟩ := h
  rcases open_ints ht he hc hf with ⟨hcs, _⟩ | ⟨a, l, c, zs, hcs, _, hl, hcm, hz, _, hcell, hwz⟩
  · simp only [Value.cells, List.cons.injEq, Value.slice.injEq, and_true] at hcs
    obtain ⟨rfl, rfl, rfl⟩ := hcs
    exact ⟨[], ⟨rfl, (by intro h; cases h), none, 0, rfl, Nat.le_refl _, by omega, fun _ => rfl, nofun⟩, by simp, by simp⟩
  · simp only [Value.cells, List.cons.injEq, Value.slice.injEq, and_true] at hcs
    obtain ⟨rfl, rfl, rfl⟩ := hcs
    have hspot : a.spot = none := by
      simp only [Value.okWide, ht, Cell.okWide, Cell.ok] at hval
      exact hval.2.2.2.1
    have hlz0 : (zs.take len).length = len := by
      rw [List.length_take]
      split at hz <;> omega
    have hg0 : ∀ i, i < len → zs.getD i 0 = (zs.take len).getD i 0 := fun i hi => by
      simp [List.getD, hi]
    have hw0 : ∀ n ∈ zs.take len, k.has n := fun n hn => wf_has (hwz n (List.mem_of_mem_take hn))
    obtain ⟨z, hze⟩ : ∃ z : List (Ty.int k).I, z = zs.take len := ⟨_, rfl⟩
    have hlz : z.length = len := by rw [hze]; exact hlz0
    have hgz : ∀ i, i < len → zs.getD i 0 = z.getD i (Ty.dflt (.int k)) := fun i hi => by rw [hze]; exact hg0 i hi
    have hw : ∀ n ∈ z, k.has n := by rw [hze]; exact hw0
    have hlt : ∀ i, i < len → i < zs.length := fun i hi => by split at hz <;> omega
    refine ⟨z, ⟨rfl, (by intro h; cases h), some a, cap, (by rw [hlz]; rfl), (by rw [hlz]; exact hl), by omega, nofun, fun a' ha' => ?_⟩, (by show z.length ≤ _; rw [hlz]; omega), hw⟩
    cases ha'
    refine ⟨fun _ => hspot, ?_, fun i hi => ?_⟩
    · rw [hlz]
      by_cases h0 : len = 0
      · left; rw [h0, Nat.zero_mul]
      · right
        obtain ⟨⟨cs, e1, fz, k1, k2⟩, _⟩ := cell_row0 hspot (hcell (len - 1) (hlt _ (by omega)))
        refine ⟨(Array.getElem?_eq_some_iff.1 k1).1, cs, e1, fz, k1, ?_, fun h => by cases h⟩
        simp only [Ty.size, Nat.mul_one]
        omega
    · rw [hlz] at hi
      obtain ⟨_, k3⟩ := cell_row0 hspot (hcell i (hlt i hi))
      refine ⟨?_, ?_⟩
      · show rowW w a.block (a.off + i * Ty.size (.int k)) 0 = _
        simp only [Ty.size, Nat.mul_one]
        rw [k3, hgz i hi]
      · refine hw _ ?_
        rw [List.getD_eq_getElem?_getD, List.getElem?_eq_getElem (by omega)]
        exact List.getElem_mem _

theorem ints_sized {H : Type} {enc : TypeId × Value → H} {P : Program} {w : World} {b0 : Nat} {sp : Nat → Bool} {held : Bool} {t e : TypeId} {k : IntKind} {v : Value} {d : DataW H} {ps : List MemPlace} {ts : List TypeId} {ds : List (DataW H)} {j : Nat} {F : Blks} {m : Md} {fp : Blks} {x : List Int}
    (hsz : (DataW.weightsEach P ts ds).all (· ≤ reachBytes) = true) (ht : ts[j]? = some t) (hd : ds[j]? = some d) (hu : P.underlying t = some (.slice e)) (he : P.underlying e = some (.int k)) (hc : P.cellsOf e = 1) {B : Nat} (hB : P.bytesOf e = B)
    (h : DataW.Trod enc P w b0 sp held t v d ps) (hr : isV (.sl e (.int k)) v ∧ m ≠ .j ∧ rep F w (.sl e (.int k)) m x (cv v) fp) : x.length * B ≤ 140737488351232 := by
  obtain ⟨A, cap, rfl, _, _⟩ := rep_sl hr.1 hr.2.1 hr.2.2
  show List.length (α := (Ty.int k).I) x * B ≤ _
  generalize List.length (α := (Ty.int k).I) x = n at *
  obtain ⟨fuel, hf⟩ := h
  rcases open_ints hu he hc hf with ⟨hcs, _⟩ | ⟨a, l, c, zs, hcs, _, hl, hcm, hz, hx, _, _⟩
  · simp only [Value.cells, List.cons.injEq, Value.slice.injEq, and_true] at hcs
    obtain ⟨_, rfl, _⟩ := hcs
    simp
  · simp only [Value.cells, List.cons.injEq, Value.slice.injEq, and_true] at hcs
    obtain ⟨_, rfl, rfl⟩ := hcs
    obtain ⟨hx, _⟩ := Prod.mk.inj hx
    subst hx
    have z := sized_slice hsz ht hd hu
    rw [hB] at z
    have h2 : n ≤ (lits (H := H) k (zs.take n)).length + (lits (H := H) k (zs.drop n)).length := by
      simp only [lits, List.length_map, List.length_take, List.length_drop]
      split at hz <;> omega
    exact Nat.le_trans (Nat.mul_le_mul_right _ h2) z

/-- a struct of a string and a row of numbers -/
theorem arg_strInts {H : Type} {enc : TypeId × Value → H} {P : Program} {w : World} {r : Reach} {base b0 : Nat} {sp : Nat → Bool} {held : Bool} {t ts tb e : TypeId} {k : IntKind} {v : Value} {d : DataW H} {ps : List MemPlace} {f0 f1 : Field}
    (ht : P.underlying t = some (.struct #[f0, f1])) (h0 : f0.type = ts ∧ f0.offset = 0) (h1 : f1.type = tb ∧ f1.offset = 1) (hs : P.underlying ts = some .string) (hb : P.underlying tb = some (.slice e)) (he : P.underlying e = some (.int k)) (hc : P.cellsOf e = 1)
    (hcs : P.cellsOf ts = 1) (hcb : P.cellsOf tb = 1) (hct : P.cellsOf t = 2) (hcells : P.cellTypes P.depth t = some [ts, tb]) (hval : Value.okWide P w r base t v) (h : DataW.Trod enc P w b0 sp held t v d ps) :
    ∃ (s : List UInt8) (x : List Int), (isV (.pair .str (.pair (.sl e (.int k)) .unit)) v ∧ Md.s ≠ .j ∧ rep (oldB w) w (.pair .str (.pair (.sl e (.int k)) .unit)) .s (s, (x, ())) (cv v) (fun _ => False)) ∧ s.length ≤ maxLen ∧ x.length ≤ maxLen ∧ ∀ n ∈ x, k.has n := by
  have hval' := hval
  simp only [Value.okWide, ht] at hval'
  obtain ⟨cs, rfl, hsz, tys, htys, _, hcell⟩ := hval'
  rw [hcells] at htys
  cases htys
  rw [hct] at hsz
  obtain ⟨l⟩ := cs
  obtain ⟨v0, v1, rfl⟩ : ∃ v0 v1, l = [v0, v1] := by
    match l, hsz with
    | [a, b], _ => exact ⟨a, b, rfl⟩
  obtain ⟨fuel, hf⟩ := h
  obtain ⟨xs, n, rfl, _, _, hxl, hx⟩ := DataW.trod_struct ht hf
  have hxl' : xs.length = 2 := hxl
  have e0 := hx 0 f0 rfl
  have e1 := hx 1 f1 rfl
  rw [h0.1, h0.2, hcs] at e0
  rw [h1.1, h1.2, hcb] at e1
  rw [List.getElem?_eq_getElem (by omega)] at e0 e1
  have e0' : DataW.trod enc P w b0 sp held n ts [v0] = some xs[0] := e0
  have e1' : DataW.trod enc P w b0 sp held n tb [v1] = some xs[1] := e1
  obtain ⟨s, hs0, _, hsl⟩ := DataW.trod_string hs e0'
  cases hs0
  obtain ⟨u, hu1, hu2⟩ := hcell 1 v1 rfl
  cases hu1
  have hok1 : Value.okWide P w r base tb v1 := by
    simp only [Value.okWide, hb]
    exact hu2
  obtain ⟨A, len, cap, rfl⟩ := okWide_slice hb hok1
  obtain ⟨x, ⟨_, _, hr⟩, hxm, hxk⟩ := arg_ints (d := xs[1].1) (ps := xs[1].2) hb he hc hok1 ⟨n, e1'⟩
  obtain ⟨_, _, hrs⟩ := arg_str (F := oldB w) (w := w) (fp := fun _ => False) s hsl
  refine ⟨s.data.toList, x, ⟨rfl, (by intro h; cases h), fun _ => False, fun _ => False, fun _ hb => hb.elim, fun _ hb => hb.elim, fun _ hb => hb.elim, rep_cells (fun j hj => ?_) hrs, fun _ => False, fun _ => False, fun _ hb => hb.elim, fun _ hb => hb.elim, fun _ hb => hb.elim, rep_cells (fun j hj => ?_) hr, trivial⟩, ?_, hxm, hxk⟩
  · have hj' : j < 1 := hj
    obtain rfl : j = 0 := by omega
    rfl
  · have hj' : j < 1 := hj
    obtain rfl : j = 0 := by omega
    rfl
  · have : s.data.toList.length = s.size := Array.length_toList
    omega

theorem args_nil {F : Blks} {w : World} {fps : Nat → Blks} : ArgsR F w [] () [] fps := rfl
theorem args_cons {F : Blks} {w : World} {t : Ty} {m : Md} {ks : List PK} {x : t.I} {d : DI ks} {v : Value} {vs : List Value} (h : isV t v ∧ m ≠ .j ∧ rep F w t m x (cv v) (fun _ => False)) (h' : ArgsR F w ks d vs (fun _ _ => False)) :
    ArgsR F w (.val t m :: ks) (x, d) (v :: vs) (fun _ _ => False) := ⟨v, vs, rfl, h.1, h.2.1, h.2.2, h'⟩

end Go.Trm
