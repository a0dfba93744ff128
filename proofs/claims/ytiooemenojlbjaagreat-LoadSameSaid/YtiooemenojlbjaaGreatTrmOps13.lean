import Derived.Test.YtiooemenojlbjaaGreatTrmOps12
import Derived.Deep.Upon
set_option linter.unusedVariables false
set_option linter.unusedSimpArgs false
namespace Go.Trm

/-- the cells of a row of so many elements -/
def rowL (c : Cells) (n : Nat) : List Value := (List.range n).map c

theorem rowL_get {c : Cells} {n j : Nat} (h : j < n) : (rowL c n).getD j undef = c j := by simp [rowL, List.getD, h]
theorem rowL_len {c : Cells} {n : Nat} : (rowL c n).length = n := by simp [rowL]
theorem rowL_some {c : Cells} {n j : Nat} {v : Value} (h : (rowL c n)[j]? = some v) : j < n ∧ v = c j := by
  have hj : j < n := by
    have := (List.getElem?_eq_some_iff.1 h).1
    simpa [rowL] using this
  refine ⟨hj, ?_⟩
  simp [rowL, hj] at h
  exact h.symm

section
variable {P : Program} {env : Env} {e : Entry} {F : Blks} {w : World} {st : St} {V : Nat → Value} {fp : Nat → Blks} {fl : Blks} {a : Act} {o : Oper} {R : Type} {K : Unit → St → Option R} {res : R} {C : Cx R} {gh : Nat → Value} {next : Act → World → Prop} {Q : Exit → Act → World → Prop}

theorem op_makeSlice {T : TypeId} {n c : Operand} (hE : EnvTy P env) (ho : o.op = .makeSlice T n c) (hS : SR e F w st V fp none') (hA : AR env gh a V) (hN : Nxt env gh e K res next) (h : (evOp env o).run C st K = some res) : o.wp P a w next Q := by
  simp only [evOp, ho] at h
  split at h
  · rename_i et t ht
    have hw := hE.ty _ _ ht
    obtain ⟨g1, g2⟩ := wt_sl hw
    obtain ⟨i', z', j1, j2, j3, j4, j5, j6⟩ := wt_info g2
    obtain ⟨k1, x, h1, e1, r1⟩ := rdInt_inv hS hA h
    obtain ⟨k2, y, h2, e2, r2⟩ := rdInt_inv hS hA h1
    split at h2
    · simp only [RM.run] at h2
      cases hb : inR x y most with
      | false => rw [hb] at h2; cases h2
      | true =>
        rw [hb] at h2
        have hb' := inR_iff hb
        unfold most at hb'
        have hbytes : (i'.bytes : Int) * y ≤ 281474976710656 := by
          have q1 : (i'.bytes : Int) ≤ 4096 := by omega
          have q2 : (0 : Int) ≤ (i'.bytes : Int) := by omega
          have q3 : (i'.bytes : Int) * y ≤ 4096 * 4294967296 := Int.mul_le_mul q1 hb'.2.2 (by omega) (by omega)
          omega
        have hr := run_make (P := P) w T et i' z' g1 j1 j4 .i64 .i64 x y hb'.1 hb'.2.1 hbytes (by omega)
        rw [j6, j2] at hr
        have hrun : (execOp a.eval o).run P w = .ok (.value (.slice (some ⟨w.heap.size, 0, none⟩) x.toNat y.toNat)) (w.alloc (.cells (madeCells (dcells t).toArray (y.toNat * t.size)) et)) := by
          simp only [execOp, ho, e1, e2, Sem.run_bind, hr, Result.andThen_ok, Sem.run_pure]
        have hnew := alloc_new (w := w) (ob := .cells (madeCells (dcells t).toArray (y.toNat * t.size)) et)
        have hrr := row_rep (F := F) (w' := w.alloc (.cells (madeCells (dcells t).toArray (y.toNat * t.size)) et)) (et := et) (t := t) (m := t.ownE env.om) (z := List.replicate x.toNat t.dflt) (fs := fun _ => none') (cap := y.toNat) hnew rfl (size_madeCells _ _) (by simp; omega) (by omega)
          ⟨fun _ _ _ _ hb => hb.elim⟩ (fun _ _ hb => hb.elim) (fun i hi => by
            simp only [List.length_replicate] at hi
            have := zero_rows (F := F) (w := w.alloc (.cells (madeCells (dcells t).toArray (y.toNat * t.size)) et)) (t := t) (n := y.toNat) (m := t.ownE env.om) (i := i) (by omega)
            have e3 : (List.replicate x.toNat t.dflt).getD i t.dflt = (List.replicate y.toNat t.dflt).getD i t.dflt := by
              have : i < y.toNat := by omega
              simp [List.getD, hi, this]
            rw [e3]
            exact this)
        rw [List.length_replicate] at hrr
        exact endV (hS.push (fun b hb => alloc_old hb) (World.size_alloc w _) rfl ⟨rfl, rfl, rfl⟩) hA hN h2 (fun _ => isV_sl) hrr (fun b hb => by
          rcases hb with hb | ⟨_, hb⟩
          · exact .inr hb
          · exact hb.elim) hrun
    · simp [RM.run] at h2
  · simp [RM.run] at h

/-- what an append's second argument brings -/
structure Brings (P : Program) (F : Blks) (w : World) (t : Ty) (m : Md) (U : TypeId) (x : Value) (y : List t.I) (fq : Blks) : Prop where
  ex : ∃ news : List Value, _root_.Go.Src P t.size U x y.length news w ∧ ∃ fs : Nat → Blks, Disj fs ∧ (∀ i b, fs i b → fq b) ∧ ∀ i, i < y.length → rep F w t m (y.getD i t.dflt) (fun j => news.getD (i * t.size + j) undef) (fs i)

theorem idx_lt {i j n s : Nat} (hi : i < n) (hj : j < s) : i * s + j < n * s := by
  calc i * s + j < i * s + s := by omega
    _ = (i + 1) * s := by rw [Nat.add_mul, Nat.one_mul]
    _ ≤ n * s := Nat.mul_le_mul_right _ hi

theorem append_get {β : Type} {l l' : List β} {i : Nat} {d : β} : (l ++ l').getD i d = if i < l.length then l.getD i d else l'.getD (i - l.length) d := by
  simp only [List.getD_eq_getElem?_getD, List.getElem?_append]
  split <;> rfl

theorem append_ok {T U ty : TypeId} {et : TypeId} {t : Ty} {m : Md} {y y' : List t.I} {v x : Value} {f1 f2 : Blks} (hw : wt P (.sl et t) T = true) (hS : SR e F w st V fp fl) (hv : isV (.sl et t) v) (hr : rep F w (.sl et t) (.o m) y (cv v) f1) (hb : Brings P F w t m U x y' f2)
    (h1 : ∀ b, f1 b → fl b) (h2 : ∀ b, f2 b → fl b) (h12 : ∀ b, f1 b → ¬ f2 b) (hle : y.length + y'.length ≤ most) :
    ∃ v' w' fl' fq, (Builtin.append_ #[T, U] ty #[v, x]).run P w = .ok v' w' ∧ SR e F w' st V fp fl' ∧ isV (.sl et t) v' ∧ rep F w' (.sl et t) (.o m) (y ++ y') (cv v') fq ∧ (∀ b, fq b → fl' b) := by
  obtain ⟨g1, g2⟩ := wt_sl hw
  obtain ⟨i', z', j1, j2, j3, j4, j5, j6⟩ := wt_info g2
  obtain ⟨news, hsrc, fs2, d2, s2, r2⟩ := hb.ex
  rw [← j2] at hsrc
  have hnl : news.length = y'.length * t.size := by rw [hsrc.newsLen, j2]
  have hval := sl_val hv
  simp only [rep] at hr
  obtain ⟨A, cap, q1, q2, q3, q4, q5⟩ := hr
  have hve : v = .slice A y.length cap := hval.trans q1
  unfold most at hle
  by_cases hroom : y.length + y'.length ≤ cap
  · by_cases hc0 : cap = 0
    · have hy0 : y = [] := List.eq_nil_of_length_eq_zero (by omega)
      have hy0' : y' = [] := List.eq_nil_of_length_eq_zero (by omega)
      subst hy0
      subst hy0'
      have hn0 : news = [] := List.eq_nil_of_length_eq_zero (by rw [hnl]; simp)
      subst hn0
      have hrun := run_append_nothing (P := P) w T U ty et i' g1 j1 A 0 cap (by omega) x hsrc
      refine ⟨v, w, fl, f1, by rw [hve]; exact hrun, hS, hv, ?_, h1⟩
      simp only [rep]
      exact ⟨A, cap, q1, q2, q3, q4, q5⟩
    cases A with
    | none => exact absurd (q4 rfl) hc0
    | some A =>
      obtain ⟨hsp, p1, p2, fs1, d1, s1, r1⟩ := q5 A rfl
      replace hsp := hsp (by omega)
      obtain ⟨b, k, sp⟩ := A
      simp only at hsp
      subst hsp
      simp only at p1 p2 s1 r1
      have hoff : k + y.length * t.size + news.length ≤ k + cap * t.size := by
        rw [hnl]
        have : (y.length + y'.length) * t.size ≤ cap * t.size := Nat.mul_le_mul_right _ hroom
        rw [Nat.add_mul] at this
        omega
      have hrun := run_append_room_src (P := P) w T U ty et i' g1 j1 b k y.length cap x y'.length news hsrc hroom
        (fun j hj => by rw [j2, cell_row p2 (by omega)]; rfl) (fun j hj => by rw [j2]; exact not_frozen p2 (by omega))
      rw [j2] at hrun
      obtain ⟨cs, el, fz, c1, c2, c3⟩ := p2
      obtain ⟨cs', k1, k2, k3, k4, k5, k6⟩ := setCells_heap (vs := news) (o := k + y.length * t.size) c1 (by omega)
      have hsame : ∀ b', b' ≠ b → Same w (w.setCells b (k + y.length * t.size) news) b' := k5
      have hbF : ∀ b', F b' → b' ≠ b := fun b' hb' hc => hS.flF b (h1 b p1) (hc ▸ hb')
      refine ⟨_, _, fl, fun b => f1 b ∨ f2 b, by rw [hve]; exact hrun, hS.world (fun b' _ hb' => hsame b' (fun hc => hb' (hc ▸ h1 b p1))) ⟨still_set _ _ _ _, Nat.le_of_eq k6.symm⟩ (fun b' hb' => ⟨.inl hb', by rw [k6]; exact hS.flH b' hb'⟩), isV_sl, ?_, fun b hb => by
        rcases hb with hb | hb
        · exact h1 b hb
        · exact h2 b hb⟩
      simp only [rep]
      refine ⟨some ⟨b, k, none⟩, cap, by rw [List.length_append]; rfl, by rw [List.length_append]; exact hroom, q3, nofun, fun A hA => ?_⟩
      cases hA
      refine ⟨fun _ => rfl, .inl p1, ⟨cs', el, fz, k1, by rw [k2]; exact c2, fun hw => by rw [k2]; exact c3 hw⟩, fun i b' => (i < y.length ∧ fs1 i b') ∨ (y.length ≤ i ∧ fs2 (i - y.length) b'), ⟨fun i j hij b' hb hb' => ?_⟩, fun i b' hb' => ?_, fun i hi => ?_⟩
      · rcases hb with ⟨u1, hb⟩ | ⟨u1, hb⟩ <;> rcases hb' with ⟨u2, hb'⟩ | ⟨u2, hb'⟩
        · exact d1.disj i j hij b' hb hb'
        · exact h12 b' (s1 i b' hb).1 (s2 _ b' hb')
        · exact h12 b' (s1 j b' hb').1 (s2 _ b' hb)
        · exact d2.disj _ _ (by omega) b' hb hb'
      · rcases hb' with ⟨_, hb'⟩ | ⟨_, hb'⟩
        · exact ⟨.inl (s1 i b' hb').1, (s1 i b' hb').2⟩
        · exact ⟨.inr (s2 _ b' hb'), fun hc => h12 b p1 (by have h9 := s2 _ b' hb'; rw [hc] at h9; exact h9)⟩
      · rw [append_get]
        rw [List.length_append] at hi
        split
        · rename_i hlt
          refine rep_fp (fun b' hb' => .inl ⟨hlt, hb'⟩) (rep_cells (fun j hj => ?_) (rep_frame (fun _ hb => hb) (fun b' hb' => hsame b' (hbF b' hb')) (fun b' hb' => hsame b' (s1 i b' hb').2) (r1 i hlt)))
          rw [row_new k1, row_new c1]
          have := idx_lt hlt hj
          rw [k4 _ (.inl (by simp only; omega))]
        · rename_i hge
          have hi2 : i - y.length < y'.length := by omega
          refine rep_fp (fun b' hb' => .inr ⟨by omega, hb'⟩) (rep_cells (fun j hj => ?_) (rep_frame (fun _ hb => hb) (fun b' hb' => hsame b' (hbF b' hb')) (fun b' hb' => hsame b' (fun hc => h12 b p1 (hc ▸ s2 _ b' hb'))) (r2 (i - y.length) hi2)))
          have := idx_lt hi2 hj
          have e1 : k + i * t.size + j = k + y.length * t.size + ((i - y.length) * t.size + j) := by
            have : i * t.size = y.length * t.size + (i - y.length) * t.size := by rw [← Nat.add_mul]; congr 1; omega
            omega
          rw [row_new k1, e1, k3 _ (by rw [hnl]; exact this)]
  · have hgrow : cap < y.length + y'.length := by omega
    have hfit : Builtin.nextslicecap (y.length + y'.length) cap * i'.bytes ≤ 281474976710656 := growslice_fits hgrow (by
      have : (y.length + y'.length) * i'.bytes ≤ 4294967296 * 4096 := Nat.mul_le_mul hle j3
      omega)
    have key : ∃ olds : List Value, olds.length = y.length * t.size ∧ (Builtin.firstCells i'.size y.length (.slice A y.length cap)).run P w.drew = .ok olds.toArray w.drew ∧ ∃ fs1 : Nat → Blks, Disj fs1 ∧ (∀ i b, fs1 i b → f1 b) ∧
        ∀ i, i < y.length → rep F w t m (y.getD i t.dflt) (fun j => olds.getD (i * t.size + j) undef) (fs1 i) := by
      cases A with
      | none =>
        have hc0 := q4 rfl
        have hy0 : y = [] := List.eq_nil_of_length_eq_zero (by omega)
        subst hy0
        exact ⟨[], by simp, run_firstCells_none w.drew _ _ _ _, fun _ => none', ⟨fun _ _ _ _ hb => hb.elim⟩, fun _ _ hb => hb.elim, fun i hi => by simp at hi⟩
      | some A =>
        by_cases hc0 : cap = 0
        · have hy0 : y = [] := List.eq_nil_of_length_eq_zero (by omega)
          subst hy0
          exact ⟨[], by simp, run_firstCells_some w.drew _ _ _ _ _ [] (by simp) (fun j v hj => by simp at hj), fun _ => none', ⟨fun _ _ _ _ hb => hb.elim⟩, fun _ _ hb => hb.elim, fun i hi => by simp at hi⟩
        obtain ⟨hsp, p1, p2, fs1, d1, s1, r1⟩ := q5 A rfl
        replace hsp := hsp (by omega)
        obtain ⟨b, k, sp⟩ := A
        simp only at hsp
        subst hsp
        simp only at p1 p2 s1 r1
        refine ⟨rowL (rowW w b k) (y.length * t.size), rowL_len, ?_, fs1, d1, fun i b hb => (s1 i b hb).1, fun i hi => rep_cells (fun j hj => ?_) (r1 i hi)⟩
        · rw [j2]
          refine run_firstCells_some w.drew _ _ _ _ _ _ rowL_len fun j v hj => ?_
          obtain ⟨hj', rfl⟩ := rowL_some hj
          rw [World.cell?_drew, addr_add, cell_row p2 (by
            have : y.length * t.size ≤ cap * t.size := Nat.mul_le_mul_right _ q2
            omega), ← rowW_at]
        · rw [rowL_get (idx_lt hi hj), rowW_at w b k, rowW_at w b (k + i * t.size), Nat.add_assoc]
    obtain ⟨olds, ol, hold, fs1, d1, s1, r1⟩ := key
    have hrun := run_append_grow_src (P := P) w T U ty et i' z' g1 j1 j4 A y.length cap olds hold x y'.length news hsrc hgrow (by omega) hfit
    have hgc := grownCap_ge w (y.length + y'.length) cap et
    have hmx := grownCap_le_maxLen w (y.length + y'.length) cap et (by unfold maxLen; omega)
    generalize hcsd : (olds ++ news).toArray ++ Builtin.zeroCells z'.cells (grownCap w (y.length + y'.length) cap et - (y.length + y'.length)) = cs at hrun
    have hcs : cs.size = grownCap w (y.length + y'.length) cap et * t.size := by
      rw [← hcsd]
      have : (Builtin.zeroCells z'.cells (grownCap w (y.length + y'.length) cap et - (y.length + y'.length))).size = (grownCap w (y.length + y'.length) cap et - (y.length + y'.length)) * t.size := by
        simp [Builtin.zeroCells, j6, dcells_length]
      simp only [Array.size_append, this, List.size_toArray, List.length_append, ol, hnl]
      rw [← Nat.add_mul, ← Nat.add_mul]
      congr 1
      omega
    have hget1 : ∀ q, q < y.length * t.size → cs.getD q undef = olds.getD q undef := by
      intro q hq
      rw [← hcsd]
      simp only [Array.getD_eq_getD_getElem?, List.getD_eq_getElem?_getD]
      rw [Array.getElem?_append_left (by simp [ol]; omega)]
      simp only [List.getElem?_toArray]
      rw [List.getElem?_append_left (by rw [ol]; exact hq)]
    have hget2 : ∀ q, q < y'.length * t.size → cs.getD (y.length * t.size + q) undef = news.getD q undef := by
      intro q hq
      rw [← hcsd]
      simp only [Array.getD_eq_getD_getElem?, List.getD_eq_getElem?_getD]
      rw [Array.getElem?_append_left (by simp [ol, hnl]; omega)]
      simp only [List.getElem?_toArray]
      rw [List.getElem?_append_right (by rw [ol]; omega), ol, Nat.add_sub_cancel_left]
    have hnew := alloc_new (w := w.drew) (ob := .cells cs et)
    have hold' : ∀ b, b < w.heap.size → Same w (w.drew.alloc (.cells cs et)) b := fun b hb => alloc_old (w := w.drew) hb
    have hrr := row_rep (F := F) (w' := w.drew.alloc (.cells cs et)) (et := et) (t := t) (m := m) (z := y ++ y') (fs := fun i b' => (i < y.length ∧ fs1 i b') ∨ (y.length ≤ i ∧ fs2 (i - y.length) b')) hnew rfl hcs (by rw [List.length_append]; exact hgc) hmx
      ⟨fun i j hij b' hb hb' => by
        rcases hb with ⟨u1, hb⟩ | ⟨u1, hb⟩ <;> rcases hb' with ⟨u2, hb'⟩ | ⟨u2, hb'⟩
        · exact d1.disj i j hij b' hb hb'
        · exact h12 b' (s1 i b' hb) (s2 _ b' hb')
        · exact h12 b' (s1 j b' hb') (s2 _ b' hb)
        · exact d2.disj _ _ (by omega) b' hb hb'⟩
      (fun i b' hb' hc => by
        have : b' < w.heap.size := by
          rcases hb' with ⟨_, hb'⟩ | ⟨_, hb'⟩
          · exact hS.flH _ (h1 _ (s1 _ _ hb'))
          · exact hS.flH _ (h2 _ (s2 _ _ hb'))
        exact absurd hc (Nat.ne_of_lt this))
      (fun i hi => by
        rw [List.length_append] at hi
        rw [append_get]
        split
        · rename_i hlt
          refine rep_fp (fun b' hb' => .inl ⟨hlt, hb'⟩) (rep_cells (fun j hj => (hget1 _ (idx_lt hlt hj)).symm) (rep_frame (fun _ hb => hb) (fun b' hb' => hold' b' (hS.inF b' hb')) (fun b' hb' => hold' b' (hS.flH _ (h1 _ (s1 _ _ hb')))) (r1 i hlt)))
        · rename_i hge
          have hi2 : i - y.length < y'.length := by omega
          refine rep_fp (fun b' hb' => .inr ⟨by omega, hb'⟩) (rep_cells (fun j hj => ?_) (rep_frame (fun _ hb => hb) (fun b' hb' => hold' b' (hS.inF b' hb')) (fun b' hb' => hold' b' (hS.flH _ (h2 _ (s2 _ _ hb')))) (r2 (i - y.length) hi2)))
          have e1 : i * t.size + j = y.length * t.size + ((i - y.length) * t.size + j) := by
            have : i * t.size = y.length * t.size + (i - y.length) * t.size := by rw [← Nat.add_mul]; congr 1; omega
            omega
          rw [e1, hget2 _ (idx_lt hi2 hj)])
    rw [List.length_append] at hrr
    refine ⟨_, _, _, _, by rw [hve]; exact hrun, hS.push (fun b hb => alloc_old (w := w.drew) hb) (World.size_alloc w.drew _) rfl ⟨rfl, rfl, rfl⟩, isV_sl, hrr, fun b hb => ?_⟩
    rcases hb with hb | ⟨i, ⟨_, hb⟩ | ⟨_, hb⟩⟩
    · exact .inr hb
    · exact .inl (h1 _ (s1 _ _ hb))
    · exact .inl (h2 _ (s2 _ _ hb))

end
end Go.Trm
