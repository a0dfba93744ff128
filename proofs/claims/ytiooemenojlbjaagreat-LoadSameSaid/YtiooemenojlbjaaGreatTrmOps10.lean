import Derived.Test.YtiooemenojlbjaaGreatTrmOps9
import Derived.Laws.Tables
import Derived.Laws.NewFold
set_option linter.unusedVariables false
set_option linter.unusedSimpArgs false
namespace Go.Trm

theorem flat_rep {α : Type} (l : List α) (d : α) : ∀ (n i j : Nat), i < n → j < l.length → (List.replicate n l).flatten.getD (i * l.length + j) d = l.getD j d := by
  intro n
  induction n with
  | zero => intro i j h; omega
  | succ n ih =>
    intro i j h hj
    simp only [List.replicate_succ, List.flatten_cons, List.getD_eq_getElem?_getD]
    cases i with
    | zero => rw [Nat.zero_mul, Nat.zero_add, List.getElem?_append_left hj]
    | succ i =>
      rw [Nat.add_mul, Nat.one_mul, List.getElem?_append_right (by omega)]
      have := ih i j (by omega) hj
      simp only [List.getD_eq_getElem?_getD] at this
      rw [← this]
      congr 2
      omega

theorem has_zero (k : IntKind) : k.has 0 := by
  cases k <;> exact ⟨by decide, by decide⟩

/-- a zero's cells, of whatever mode -/
theorem rep_dflt {F : Blks} {w : World} : ∀ {t : Ty} {m : Md} {c : Cells} {fq : Blks}, (∀ j, j < t.size → c j = (dcells t).getD j undef) → rep F w t m t.dflt c fq := by
  intro t
  induction t with
  | int k => intro m c fq h; have := h 0 (by simp [Ty.size]); cases m <;> simp only [rep] <;> exact ⟨this, has_zero k⟩
  | bool => intro m c fq h; have := h 0 (by simp [Ty.size]); cases m <;> simp only [rep] <;> exact this
  | str => intro m c fq h; have := h 0 (by simp [Ty.size]); cases m <;> simp only [rep] <;> exact ⟨this, by decide⟩
  | sl e t ih =>
    intro m c fq h
    have := h 0 (by simp [Ty.size])
    cases m <;> simp only [rep] <;> exact ⟨none, 0, this, Nat.le_refl _, by decide, fun _ => rfl, nofun⟩
  | ptr e t ih =>
    intro m c fq h
    have := h 0 (by simp [Ty.size])
    cases m <;> simp only [rep] <;> exact ⟨none, this, rfl⟩
  | unit => intro m c fq h; cases m <;> simp only [rep]
  | pair a b iha ihb =>
    intro m c fq h
    have ha : ∀ j, j < a.size → c j = (dcells a).getD j undef := fun j hj => by
      rw [h j (by simp only [Ty.size]; omega)]
      simp only [dcells, List.getD_eq_getElem?_getD]
      rw [List.getElem?_append_left (by rw [dcells_length]; exact hj)]
    have hb : ∀ j, j < b.size → c (a.size + j) = (dcells b).getD j undef := fun j hj => by
      rw [h _ (by simp only [Ty.size]; omega)]
      simp only [dcells, List.getD_eq_getElem?_getD]
      rw [List.getElem?_append_right (by rw [dcells_length]; omega), dcells_length, Nat.add_sub_cancel_left]
    have : ∃ fa fb : Blks, (∀ i, fa i → fq i) ∧ (∀ i, fb i → fq i) ∧ (∀ i, fa i → ¬ fb i) ∧ rep F w a m.fst a.dflt c fa ∧ rep F w b m.snd b.dflt (fun j => c (a.size + j)) fb :=
      ⟨none', none', fun _ h => h.elim, fun _ h => h.elim, fun _ h => h.elim, iha ha, ihb hb⟩
    cases m with
    | j => exact rep_j
    | _ => simpa only [rep, Ty.dflt] using this
  | arr n t ih =>
    intro m c fq h
    have : (List.replicate n t.dflt).length = n ∧ ∃ fs : Nat → Blks, Disj fs ∧ (∀ i b, fs i b → fq b) ∧ ∀ i, i < n → rep F w t m.el ((List.replicate n t.dflt).getD i t.dflt) (fun j => c (i * t.size + j)) (fs i) := by
      refine ⟨by simp, fun _ => none', ⟨fun _ _ _ _ h => h.elim⟩, fun _ _ h => h.elim, fun i hi => ?_⟩
      have e1 : (List.replicate n t.dflt).getD i t.dflt = t.dflt := by simp [List.getD, hi]
      rw [e1]
      refine ih fun j hj => ?_
      rw [h _ (by
        simp only [Ty.size]
        calc i * t.size + j < i * t.size + t.size := by omega
          _ = (i + 1) * t.size := by rw [Nat.add_mul, Nat.one_mul]
          _ ≤ n * t.size := Nat.mul_le_mul_right _ hi)]
      simp only [dcells]
      rw [← dcells_length t]
      exact flat_rep _ _ _ _ _ hi (by rw [dcells_length]; exact hj)
    cases m with
    | j => exact rep_j
    | _ => simpa only [rep, Ty.dflt] using this

section
variable {P : Program} {env : Env} {e : Entry} {F : Blks} {w : World} {st : St} {V : Nat → Value} {fp : Nat → Blks} {fl : Blks} {a : Act} {o : Oper} {R : Type} {K : Unit → St → Option R} {res : R} {C : Cx R} {gh : Nat → Value} {next : Act → World → Prop} {Q : Exit → Act → World → Prop}

theorem row_new {w' : World} {N : Nat} {cs : Array Value} {el : TypeId} {fz : Nat × Nat} (h : w'.heap[N]? = some (.cells cs el fz)) (o j : Nat) : rowW w' N o j = cs.getD (o + j) undef := by
  simp only [rowW, h, rowOf]

theorem run_newVar (T : TypeId) (v : Value) : (newVar T v).run P w = .ok ⟨w.heap.size, 0, none⟩ (w.alloc (.cells v.cells T)) := rfl

theorem op_alloc {T : TypeId} (hE : EnvTy P env) (ho : o.op = .alloc T) (hS : SR e F w st V fp none') (hA : AR env gh a V) (hN : Nxt env gh e K res next) (h : (evOp env o).run C st K = some res) : o.wp P a w next Q := by
  simp only [evOp, ho] at h
  split at h
  · rename_i t ht
    obtain ⟨i, z, h1, h2, h3, h4, h5, h6⟩ := wt_info (hE.ty _ _ ht)
    have hrun : (execOp a.eval o).run P w = .ok (.value (.pointer (some ⟨w.heap.size, 0, none⟩))) (w.alloc (.cells z.cells T)) := by
      simp only [execOp, ho, Instr.alloc, Sem.run_bind, run_zero (hE.ty _ _ ht), Result.andThen_ok, run_newVar, Sem.run_pure]
      rw [← h5]
    have hnew := alloc_new (w := w) (ob := .cells z.cells T)
    refine endV (fq := fun b => b = w.heap.size) (hS.push (fun b hb => alloc_old hb) (World.size_alloc w _) rfl ⟨rfl, rfl, rfl⟩) hA hN h (fun _ => isV_ptr) ?_ (fun _ hb => .inr hb) hrun
    simp only [rep]
    refine ⟨_, rfl, _, rfl, rfl, rfl, ⟨_, _, _, hnew, ?_, fun _ => .inl rfl⟩, none', fun _ hb => hb.elim, rep_dflt fun j hj => ?_⟩
    · rw [h6]; simp [dcells_length]
    · rw [row_new hnew, Nat.zero_add, h6]
      simp [Array.getD_eq_getD_getElem?, List.getD]
  · simp [RM.run] at h

theorem own_cells {t : Ty} {m : Md} {y : t.I} {v : Value} {fq : Blks} (hv : isV t v) (hm : m ≠ .j) (hrep : rep F w t m y (cv v) fq) : v.cells.size = t.size := by
  refine val_size hv fun ha => ?_
  have := rep_one hrep hm ha
  have hv' : v = valOf t (cv v) := hv
  rw [hv']
  simp only [valOf, ha, Bool.false_eq_true, if_false]
  exact this

theorem al_root {r : Nat} {T : TypeId} {t : Ty} {m : Md} {y : t.I} {v : Value} (hS : SR e F w st V fp fl) (hst : st r = .v (.ptr T t) (.o m) (some y)) (ha : AlOk w st V r [.der] v) : v = V r := by
  obtain ⟨_, _, _, u, c', b, o, h1, h2⟩ := ha _ _ _ hst
  have h3 := al_der hS hst
  obtain ⟨_, _, _, u', c'', b', o', h4, h5⟩ := h3 _ _ _ hst
  rw [h1] at h4
  cases h4
  rw [h2, h5]

theorem op_boxB {T : TypeId} {x : Operand} {r : Nat} (hE : EnvTy P env) (ho : o.op = .box T x) (ha : AlOk w st V r [.der] (a.eval x)) (hS : SR e F w st V fp none') (hA : AR env gh a V) (hN : Nxt env gh e K res next) (h : (boxAl env o T r).run C st K = some res) : o.wp P a w next Q := by
  unfold boxAl at h
  split at h
  · rename_i hT
    simp only [Bool.and_eq_true] at hT
    have hg := Nat.le_of_ble_eq_true hT.1
    obtain ⟨U, t, hw⟩ := isPtr_wt hE hT.2
    simp only [ownR, RM.run] at h
    split at h
    · rename_i T' t' m y hst
      have hv := al_root hS hst ha
      have hcell : (a.eval x).cells = #[a.eval x] := by
        obtain ⟨_, _, _, u, c', b, o, h1, h2⟩ := ha _ _ _ hst
        rw [h2]; rfl
      have hrun : (execOp a.eval o).run P w = .ok (.value (.pointer (some ⟨w.heap.size, 0, none⟩))) (w.alloc (.cells (a.eval x).cells T)) := by
        simp only [execOp, ho, Instr.box, Sem.run_bind, Result.andThen_ok, run_newVar, Sem.run_pure]
      have hnew := alloc_new (w := w) (ob := .cells (a.eval x).cells T)
      have hS1 := hS.push (fun b hb => alloc_old hb) (World.size_alloc w (.cells (a.eval x).cells T)) rfl ⟨rfl, rfl, rfl⟩
      have hS2 := hS1.moreF (F' := fun b => F b ∨ b = w.heap.size) (fl' := none') (fun b hb => .inl hb) (fun b hb => hb.imp id (fun hb => .inr hb)) (fun _ hb => hb.elim) (fun _ hb => hb.elim)
      refine endO (fq := none') hS2 hA hN rfl h ⟨hg, w.heap.size, 0, rfl, .inr rfl, ⟨_, _, _, hnew, ?_, fun _ => .inl rfl⟩, ?_⟩ (fun _ hb => hb) hrun
      · rw [hcell]; simp
      · rw [row_new hnew, hcell, ← hv]; rfl
    · simp [RM.run] at h
  · simp [RM.run] at h

theorem op_box {T : TypeId} {x : Operand} (hE : EnvTy P env) (ho : o.op = .box T x) (hS : SR e F w st V fp none') (hA : AR env gh a V) (hN : Nxt env gh e K res next) (h : (evOp env o).run C st K = some res) : o.wp P a w next Q := by
  simp only [evOp, ho, rdT] at h
  obtain ⟨sv, h, hx⟩ := rdO_inv h
  split at h
  · rename_i r
    refine op_boxB hE ho ?_ hS hA hN h
    rcases hx with ⟨s, rfl, hs, h3⟩ | ⟨c, rfl, h3⟩ | ⟨f', rfl, h3⟩
    · have hev : a.eval (.tmp s) = V (env.b + s) := hA.tmps s hs
      have hsv := hS.sv (env.b + s)
      rw [← h3] at hsv
      rw [hev]
      exact hsv
    · unfold cst at h3; (repeat' split at h3) <;> cases h3
    · cases h3
  obtain ⟨t, m, y, src, h1, hd, _⟩ := rdV_inv hS hA h
  obtain ⟨st1, fp1, fq, h2, hS1, hv, hm, hrep, hfl, _⟩ := take_inv hS hd h1
  split at h2
  · rename_i hT
    have hsz := own_cells hv hm hrep
    have hrun : (execOp a.eval o).run P w = .ok (.value (.pointer (some ⟨w.heap.size, 0, none⟩))) (w.alloc (.cells (a.eval x).cells T)) := by
      simp only [execOp, ho, Instr.box, Sem.run_bind, Result.andThen_ok, run_newVar, Sem.run_pure]
    have hnew := alloc_new (w := w) (ob := .cells (a.eval x).cells T)
    refine endV (fq := fun b => b = w.heap.size ∨ fq b) (hS1.push (fun b hb => alloc_old hb) (World.size_alloc w _) rfl ⟨rfl, rfl, rfl⟩) hA hN h2 (fun _ => isV_ptr) ?_ (fun _ hb => by rcases hb with hb | hb; exact .inr hb; exact .inl (.inr hb)) hrun
    simp only [rep]
    refine ⟨_, rfl, _, rfl, rfl, .inl rfl, ⟨_, _, _, hnew, by simp [hsz], fun _ => .inl rfl⟩, fq, fun b hb => ⟨.inr hb, ?_⟩, ?_⟩
    · intro hc
      have := hS1.flH b (.inr hb)
      exact absurd hc (Nat.ne_of_lt this)
    · refine rep_cells (fun j hj => ?_) (rep_frame (fun _ hb => hb) (fun b hb => alloc_old (hS1.inF b hb)) (fun b hb => alloc_old (hS1.flH b (.inr hb))) hrep)
      rw [row_new hnew, Nat.zero_add]
      rfl
  · simp [RM.run] at h2

theorem len_str {T U : TypeId} (y : List UInt8) (h : P.underlying T = some .string) : (Builtin.len_ #[T] U #[.string ⟨y.toArray⟩]).run P w = .ok (goInt (y.length : Nat)) w := by
  simp only [Builtin.len_, List.getElem?_toArray, List.getElem?_cons_zero, Sem.run_bind, run_underlying h, Result.andThen_ok, Sem.run_pure]
  rw [str_size]

theorem op_len {T : TypeId} {x : Operand} {c : Call} (hE : EnvTy P env) (ho : o.op = .call c) (hc : c.callee = .builtin .len) (h1 : c.args.toList = [x]) (h2 : c.argTypes.toList = [T]) (hS : SR e F w st V fp none') (hA : AR env gh a V) (hN : Nxt env gh e K res next)
    (h : (evB env o .len [x] [T]).run C st K = some res) : wpp P o a w next := by
  have e1 : c.args = #[x] := by apply Array.ext'; rw [h1]
  have e2 : c.argTypes = #[T] := by apply Array.ext'; rw [h2]
  have hrun : ∀ v, (∀ w, (Builtin.len_ #[T] o.type #[a.eval x]).run P w = .ok v w) → ∀ w, (execOp a.eval o).run P w = .ok (.value v) w := by
    intro v hv w
    simp only [execOp, ho, resolve, hc, e1, e2, Sem.run_bind, Sem.run_pure, Result.andThen_ok, invoke, builtin, List.map_toArray, List.map_cons, List.map_nil, hv]
  simp only [evB] at h
  obtain ⟨t, m, y, src, h1, hd, _⟩ := rdV_inv hS hA h
  obtain ⟨hv, hm, fq, hrep, _⟩ := hd.rep hS
  have e3 : IntKind.i64.min = -9223372036854775808 := by decide
  have e4 : IntKind.i64.max = 9223372036854775807 := by decide
  cases hT : env.is T t with
  | false =>
    rw [hT] at h1
    simp only at h1
    split at h1
    · rename_i et y
      split at h1
      · rename_i et' u' hTy
        obtain ⟨A, cap, q0, q1, q2⟩ := rep_sl hv hm hrep
        refine endVp (v := goInt (List.length y : Nat)) hS hA hN h1 (fun _ => rfl) (mk_int ?_) (fun _ hb => hb) (hrun _ ?_)
        · constructor
          · rw [e3]; omega
          · rw [e4]; omega
        · intro w
          simp only [Builtin.len_, List.getElem?_toArray, List.getElem?_cons_zero, Sem.run_bind, run_underlying (wt_sl (hE.ty _ _ hTy)).1, Result.andThen_ok, q0, Sem.run_pure]
      · simp [RM.run] at h1
    · simp [RM.run] at h1
  | true =>
  rw [hT] at h1
  have hE' := Env.is_ok hE hT
  cases t with
  | sl et u =>
    obtain ⟨A, cap, q0, q1, q2⟩ := rep_sl hv hm hrep
    refine endVp (v := goInt (List.length y : Nat)) hS hA hN h1 (fun _ => rfl) (mk_int ?_) (fun _ hb => hb) (hrun _ ?_)
    · constructor
      · rw [e3]; omega
      · rw [e4]; omega
    · intro w
      simp only [Builtin.len_, List.getElem?_toArray, List.getElem?_cons_zero, Sem.run_bind, run_underlying (wt_sl hE').1, Result.andThen_ok, q0, Sem.run_pure]
  | str =>
    obtain ⟨q0, q1⟩ := rep_str hv hm hrep
    refine endVp (v := goInt (List.length y : Nat)) hS hA hN h1 (fun _ => rfl) (mk_int ?_) (fun _ hb => hb) (hrun _ ?_)
    · have q1' : List.length y ≤ 2 ^ 63 - 1 := q1
      constructor
      · rw [e3]; omega
      · rw [e4]; omega
    · rw [q0]
      exact fun w => len_str y (wt_str hE')
  | arr n u =>
    dsimp only at h1
    split at h1
    · rename_i hk
      obtain ⟨el, g1, g2⟩ := wt_arr hE'
      refine endVp (v := goInt (n : Int)) hS hA hN h1 (fun _ => rfl) (mk_int (inK_has hk)) (fun _ hb => hb) (hrun _ ?_)
      intro w
      simp only [Builtin.len_, List.getElem?_toArray, List.getElem?_cons_zero, Sem.run_bind, run_underlying g1, Result.andThen_ok, Sem.run_pure]
    · simp [RM.run] at h1
  | _ => simp [RM.run] at h1

end
end Go.Trm
