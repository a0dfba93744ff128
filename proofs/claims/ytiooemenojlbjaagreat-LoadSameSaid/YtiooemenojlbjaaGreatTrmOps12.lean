import Derived.Test.YtiooemenojlbjaaGreatTrmOps11
import Derived.Laws.MakeOwn
set_option linter.unusedVariables false
set_option linter.unusedSimpArgs false
namespace Go.Trm

theorem made_get {z : Array Value} {n i j : Nat} (hi : i < n) (hj : j < z.size) : (madeCells z (n * z.size)).getD (i * z.size + j) undef = z.getD j undef := by
  have h1 : i * z.size + j < n * z.size := by
    calc i * z.size + j < i * z.size + z.size := by omega
      _ = (i + 1) * z.size := by rw [Nat.add_mul, Nat.one_mul]
      _ ≤ n * z.size := Nat.mul_le_mul_right _ hi
  have h2 : (i * z.size + j) % z.size = j := by rw [Nat.add_comm, Nat.add_mul_mod_self_right, Nat.mod_eq_of_lt hj]
  simp only [madeCells, Array.getD_eq_getD_getElem?, Array.getElem?_map]
  rw [Array.getElem?_range, if_pos h1]
  simp [h2, hj]

theorem fill_map (f : Operand → Value) (ps : Array (Nat × Operand)) : (ps.map fun (i, x) => (i, f x)).toList = ps.toList.map fun q => (q.1, f q.2) := by
  simp

section
variable {P : Program} {env : Env} {e : Entry} {F : Blks} {w : World} {st : St} {V : Nat → Value} {fp : Nat → Blks} {fl : Blks} {a : Act} {o : Oper} {R : Type} {K : Unit → St → Option R} {res : R} {C : Cx R} {gh : Nat → Value} {next : Act → World → Prop} {Q : Exit → Act → World → Prop}

theorem zero_row {t : Ty} {m : Md} {fq : Blks} : rep F w t m t.dflt (fun j => (dcells t).toArray.getD j undef) fq :=
  rep_dflt fun j hj => by simp [Array.getD_eq_getD_getElem?, List.getD]

theorem zero_rows {t : Ty} {n : Nat} {m : Md} {i : Nat} (hi : i < n) : rep F w t m ((List.replicate n t.dflt).getD i t.dflt) (fun j => (madeCells (dcells t).toArray (n * t.size)).getD (i * t.size + j) undef) none' := by
  have e1 : (List.replicate n t.dflt).getD i t.dflt = t.dflt := by simp [List.getD, hi]
  rw [e1]
  refine rep_dflt fun j hj => ?_
  have hz : (dcells t).toArray.size = t.size := by simp [dcells_length]
  have := made_get (z := (dcells t).toArray) (n := n) (i := i) (j := j) hi (by rw [hz]; exact hj)
  rw [hz] at this
  rw [this]
  simp [Array.getD_eq_getD_getElem?, List.getD]

theorem arr_zero {t : Ty} {n : Nat} {m : Md} {i : Nat} (hi : i < n) : rep F w t m ((List.replicate n t.dflt).getD i t.dflt) (fun j => (dcells (.arr n t)).toArray.getD (i * t.size + j) undef) none' := by
  have e1 : (List.replicate n t.dflt).getD i t.dflt = t.dflt := by simp [List.getD, hi]
  rw [e1]
  refine rep_dflt fun j hj => ?_
  have := flat_rep (dcells t) undef n i j hi (by rw [dcells_length]; exact hj)
  rw [dcells_length] at this
  rw [← this]
  simp [dcells, Array.getD_eq_getD_getElem?, List.getD]

theorem op_build {T : TypeId} {ps : Array (Nat × Operand)} (hE : EnvTy P env) (ho : o.op = .build T ps) (hS : SR e F w st V fp none') (hA : AR env gh a V) (hN : Nxt env gh e K res next) (h : (evOp env o).run C st K = some res) : wpp P o a w next := by
  simp only [evOp, ho] at h
  have hrun : ∀ cs, P.built T (ps.map fun (i, x) => (i, a.eval x)).toList = some cs → ∀ w, (execOp a.eval o).run P w = .ok (.value (.agg cs)) w := by
    intro cs hb w
    simp only [execOp, ho, Sem.run_bind, Go.run_build w T _ cs hb, Result.andThen_ok, Sem.run_pure]
  split at h
  · rename_i n t ht
    have hw := hE.ty _ _ ht
    obtain ⟨i, z, h1, h2, h3, h4, h5, h6⟩ := wt_info hw
    obtain ⟨el, g1, g2⟩ := wt_arr hw
    obtain ⟨i', z', j1, j2, j3, j4, j5, j6⟩ := wt_info g2
    have hz0 : (dcells (.arr n t)).toArray.size = n * t.size := by simp [dcells_length, Ty.size]
    obtain ⟨st', fp', fl', m', z1, cs', fs', k1, k2, k3, k4, k5, k6, k7, k8, k9⟩ := parts_inv (n := n) (t := t) (fs := fun _ => none') (cs := (dcells (.arr n t)).toArray) hA hS (by simp) ⟨fun _ _ _ _ hb => hb.elim⟩ (fun _ _ hb => hb.elim)
      (fun mm _ i hi => arr_zero hi)
      hz0 h
    obtain rfl : m' = some .s := k9 _ rfl
    have hb : P.built T (ps.map fun (i, x) => (i, a.eval x)).toList = some cs' := by
      simp only [Program.built, h1, g1, h4, j1, h6, fill_map, j2]
      exact k3
    refine endVp (fq := none') k2 hA hN k1 (fun _ => agg_isV rfl k8) ?_ (fun _ hb => hb.elim) (hrun _ hb)
    simp only [rep, Md.el]
    exact ⟨k4, fun _ => none', ⟨fun _ _ _ _ hb => hb.elim⟩, fun _ _ hb => hb.elim, fun i hi => rep_s (k7 .s (.inr rfl) i hi)⟩
  · rename_i t _ ht
    split at h
    · rename_i hs
      have hw := hE.ty _ _ ht
      obtain ⟨i, z, h1, h2, h3, h4, h5, h6⟩ := wt_info hw
      obtain ⟨fs, pl, p1, p2, p3⟩ := wt_places hw hs
      have hz0 : (dcells t).toArray.size = t.size := by simp [dcells_length]
      obtain ⟨st', fp', fl', m', z1, cs', fz', k1, k2, k3, k4, k5, k6⟩ := fields_inv (t := t) (place := fun i => pl[i]?) (fz := none') (cs := (dcells t).toArray) hA p3 hS zero_row (fun _ hb => hb.elim) hz0 h
      have hb : P.built T (ps.map fun (i, x) => (i, a.eval x)).toList = some cs' := by
        simp only [Program.built, h1, p1, h4, p2, h6, fill_map]
        simpa using k3
      exact endVp (fq := fz') k2 hA hN k1 (fun _ => agg_isV (strc_agg hs) k6) k4 k5 (hrun _ hb)
    · simp [RM.run] at h
  · simp [RM.run] at h

theorem row_rep {w' : World} {N : Nat} {cs : Array Value} {el et : TypeId} {fz : Nat × Nat} {t : Ty} {m : Md} {z : List t.I} {fs : Nat → Blks} {cap : Nat} (hnew : w'.heap[N]? = some (.cells cs el fz)) (hfz : fz.1 = fz.2) (hc : cs.size = cap * t.size) (hl : z.length ≤ cap) (hm : cap ≤ 2 ^ 63 - 1) (hd : Disj fs)
    (hn : ∀ i b, fs i b → b ≠ N) (hr : ∀ i, i < z.length → rep F w' t m (z.getD i t.dflt) (fun j => cs.getD (i * t.size + j) undef) (fs i)) : rep F w' (.sl et t) (.o m) z (cv (.slice (some ⟨N, 0, none⟩) z.length cap)) (fun b => b = N ∨ ∃ i, fs i b) := by
  simp only [rep]
  refine ⟨some ⟨N, 0, none⟩, cap, rfl, hl, hm, nofun, fun A hA => ?_⟩
  cases hA
  refine ⟨fun _ => rfl, .inl rfl, ⟨cs, el, fz, hnew, by simp [hc], fun _ => .inl hfz⟩, fs, hd, fun i b hb => ⟨.inr ⟨i, hb⟩, hn i b hb⟩, fun i hi => ?_⟩
  refine rep_cells (fun j hj => ?_) (hr i hi)
  rw [row_new hnew, Nat.zero_add]

theorem op_buildSlice {T : TypeId} {n : Nat} {ps : Array (Nat × Operand)} (hE : EnvTy P env) (ho : o.op = .buildSlice T n ps) (hS : SR e F w st V fp none') (hA : AR env gh a V) (hN : Nxt env gh e K res next) (h : (evOp env o).run C st K = some res) : o.wp P a w next Q := by
  simp only [evOp, ho] at h
  split at h
  · rename_i et t ht
    split at h
    · rename_i hn
      simp only [Bool.and_eq_true] at hn
      have hn' := Nat.le_of_ble_eq_true hn.1
      have hn2 := Nat.le_of_ble_eq_true hn.2
      have hw := hE.ty _ _ ht
      obtain ⟨g1, g2⟩ := wt_sl hw
      obtain ⟨i', z', j1, j2, j3, j4, j5, j6⟩ := wt_info g2
      have hz0 : (madeCells (dcells t).toArray (n * t.size)).size = n * t.size := size_madeCells _ _
      obtain ⟨st', fp', fl', m', z1, cs', fs', k1, k2, k3, k4, k5, k6, k7, k8, k9⟩ := parts_inv (n := n) (t := t) (fs := fun _ => none') (cs := madeCells (dcells t).toArray (n * t.size)) hA hS (by simp) ⟨fun _ _ _ _ hb => hb.elim⟩ (fun _ _ hb => hb.elim)
        (fun mm _ i hi => zero_rows hi) hz0 h
      have hrun : (execOp a.eval o).run P w = .ok (.value (.slice (some ⟨w.heap.size, 0, none⟩) n n)) (w.alloc (.cells cs' et)) := by
        have hnl : ¬ (n * t.size > 2 ^ 24) := by omega
        have k3' : Instr.fill (fun i => some (i * t.size, t.size)) (madeCells (dcells t).toArray (n * t.size)) (ps.map fun (i, x) => (i, a.eval x)).toList = some cs' := by rw [fill_map]; exact k3
        simp only [execOp, ho, Instr.buildSlice, Sem.run_bind, run_underlying g1, Result.andThen_ok, run_sizeOf g2]
        rw [if_neg hnl]
        by_cases h0 : n * t.size = 0
        · rw [if_pos h0]
          have hm : (Array.range (n * t.size)).map ((#[] : Array Value)[· % (#[] : Array Value).size]!) = madeCells (dcells t).toArray (n * t.size) := by
            rw [h0]; simp [madeCells]
          simp only [Sem.run_bind, Sem.run_pure, Result.andThen_ok, hm, k3']
          rfl
        · rw [if_neg h0]
          have hm : (Array.range (n * t.size)).map (z'.cells[· % z'.cells.size]!) = madeCells (dcells t).toArray (n * t.size) := by
            rw [j6]; rfl
          have hzv := run_zero (w := w) g2
          rw [← j5] at hzv
          simp only [Sem.run_bind, Sem.run_pure, Result.andThen_ok, hzv, hm, k3']
          rfl
      have hnew := alloc_new (w := w) (ob := .cells cs' et)
      have hfin : ∀ m, (m' = none ∨ m' = some m) → (fin env o (.v (.sl et t) (.o m) z1)).run C st' K = some res → o.wp P a w next Q := by
        intro m hm h2
        refine endV (fq := fun b => b = w.heap.size ∨ ∃ i, fs' i b) (k2.push (fun b hb => alloc_old hb) (World.size_alloc w _) rfl ⟨rfl, rfl, rfl⟩) hA hN h2 (fun _ => isV_sl) ?_ (fun b hb => ?_) hrun
        · have hr := row_rep (F := F) (w' := w.alloc (.cells cs' et)) (et := et) (m := m) (fs := fs') hnew rfl k8 (Nat.le_of_eq k4) (by omega) k5 (fun i b hb hc => absurd hc (Nat.ne_of_lt (k2.flH b (k6 i b hb))))
            (fun i hi => rep_frame (fun _ hb => hb) (fun b hb => alloc_old (k2.inF b hb)) (fun b hb => alloc_old (k2.flH b (k6 i b hb))) (k7 m hm i (by rw [← k4]; exact hi)))
          rw [k4] at hr
          exact hr
        · rcases hb with hb | ⟨i, hb⟩
          · exact .inr hb
          · exact .inl (k6 i b hb)
      split at k1
      · exact hfin .s (.inl rfl) k1
      · exact hfin _ (.inr rfl) k1
    · simp [RM.run] at h
  · simp [RM.run] at h

end
end Go.Trm
