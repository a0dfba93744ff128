import Derived.Test.YtiooemenojlbjaaGreatTrmOps4
set_option linter.unusedVariables false
set_option linter.unusedSimpArgs false
namespace Go.Trm

theorem setCells_heap {b : Nat} : ∀ {vs : List Value} {o : Nat} {w : World} {cs : Array Value} {el : TypeId} {fz : Nat × Nat}, w.heap[b]? = some (.cells cs el fz) → o + vs.length ≤ cs.size →
    ∃ cs', (w.setCells b o vs).heap[b]? = some (.cells cs' el fz) ∧ cs'.size = cs.size ∧ (∀ j, j < vs.length → cs'.getD (o + j) undef = vs.getD j undef) ∧ (∀ j, (j < o ∨ o + vs.length ≤ j) → cs'.getD j undef = cs.getD j undef) ∧
      (∀ b', b' ≠ b → (w.setCells b o vs).heap[b']? = w.heap[b']?) ∧ (w.setCells b o vs).heap.size = w.heap.size
  | [], o, w, cs, el, fz, h, _ => ⟨cs, h, rfl, fun j hj => by simp at hj, fun _ _ => rfl, fun _ _ => rfl, rfl⟩
  | v :: vs, o, w, cs, el, fz, h, hl => by
    have hb : b < w.heap.size := (Array.getElem?_eq_some_iff.1 h).1
    have h1 : (w.setCell ⟨b, o, none⟩ v).heap[b]? = some (.cells (cs.setIfInBounds o v) el fz) := by
      simp only [World.setCell, Array.getElem?_modify, if_true, h, Option.map_some]
      rfl
    have h2 : ∀ b', b' ≠ b → (w.setCell ⟨b, o, none⟩ v).heap[b']? = w.heap[b']? := by
      intro b' hb'
      simp only [World.setCell, Array.getElem?_modify]
      rw [if_neg (Ne.symm hb')]
    have h3 : (w.setCell ⟨b, o, none⟩ v).heap.size = w.heap.size := by simp [World.setCell]
    simp only [List.length_cons] at hl
    obtain ⟨cs', k1, k2, k3, k4, k5, k6⟩ := setCells_heap (vs := vs) (o := o + 1) h1 (by simp; omega)
    refine ⟨cs', k1, by simpa using k2, ?_, ?_, fun b' hb' => (k5 b' hb').trans (h2 b' hb'), k6.trans h3⟩
    · intro j hj
      cases j with
      | zero =>
        rw [k4 (o + 0) (.inl (by omega))]
        have : o < cs.size := by omega
        simp [this]
      | succ j =>
        have := k3 j (by simpa using hj)
        rw [show o + (j + 1) = o + 1 + j by omega, this]
        simp
    · intro j hj
      simp only [List.length_cons] at hj
      rw [k4 j (by omega)]
      have : o ≠ j := by omega
      simp only [Array.getD_eq_getD_getElem?]
      rw [Array.getElem?_setIfInBounds_ne this]

theorem still_set (w : World) (b : Nat) : ∀ (o : Nat) (vs : List Value), Still w (w.setCells b o vs)
  | _, [] => Still.refl w
  | o, v :: r => Still.trans (b := w.setCell ⟨b, o, none⟩ v) ⟨rfl, rfl, rfl⟩ (still_set _ b (o + 1) r)

/-- a variable in memory is filled anew -/
theorem store_chg {w : World} {b o : Nat} {t : Ty} {v : Value} (hh : holdsW w b (o + t.size) true) (hv : v.cells.size = t.size) :
    ChgW w (w.setCells b o v.cells.toList) t (some (b, o)) ∧ (w.setCells b o v.cells.toList).heap.size = w.heap.size ∧ ∀ j, j < t.size → rowW (w.setCells b o v.cells.toList) b o j = cv v j := by
  obtain ⟨cs, el, fz, h1, h2, h3⟩ := hh
  have hl : v.cells.toList.length = t.size := by simpa using hv
  obtain ⟨cs', k1, k2, k3, k4, k5, k6⟩ := setCells_heap (vs := v.cells.toList) (o := o) h1 (by omega)
  refine ⟨⟨k5, ?_, ?_⟩, k6, ?_⟩
  · intro j hj
    simp only [rowW, k1, h1, rowOf, Nat.zero_add]
    exact k4 j (by omega)
  · rintro n wr ⟨cs0, el0, fz0, e1, e2, e3⟩
    rw [h1] at e1
    cases e1
    exact ⟨cs', el, fz, k1, by omega, fun hw => by rw [k2]; exact e3 hw⟩
  · intro j hj
    simp only [rowW, k1, rowOf]
    rw [k3 j (by omega)]
    simp [cv, Array.getD_eq_getD_getElem?]

section
variable {P : Program} {env : Env} {e : Entry} {F : Blks} {w : World} {st : St} {V : Nat → Value} {fp : Nat → Blks} {fl : Blks} {a : Act} {o : Oper} {R : Type} {K : Unit → St → Option R} {res : R} {C : Cx R} {gh : Nat → Value} {next : Act → World → Prop} {Q : Exit → Act → World → Prop}

theorem run_storeVar {T : TypeId} {t : Ty} {b k : Nat} {v : Value} (h : wt P t T = true) (hh : holdsW w b (k + t.size) true) (hv : v.cells.size = t.size) (h1 : ∀ u ∈ v.cells.toList, u.oneCell' = true) :
    (storeVar T ⟨b, k, none⟩ v).run P w = .ok () (w.setCells b k v.cells.toList) := by
  simp only [storeVar, Sem.run_bind, run_sizeOf h, Result.andThen_ok, hv, ne_eq, not_true_eq_false, if_false]
  have hl : v.cells.toList.length = t.size := by simpa using hv
  have := run_storeCells_cells (P := P) b k v.cells.toList 0 w (fun j hj => by
      simp only [Nat.add_zero]
      rw [cell_row hh (k := k + j) (by omega)]; rfl)
    (fun j hj => by simp only [Nat.add_zero]; exact not_frozen hh (by omega)) h1
  simpa using this

/-- a pointer that is read: a place, or data that stays -/
theorem rdP_inv {T : TypeId} {x : Operand} {α : Type} {kp : Nat → List PE → RM α} {kd : (t : Ty) → t.I → RM α} {K : α → St → Option R} (hS : SR e F w st V fp fl) (hA : AR env gh a V) (h : (rdP env T x kp kd).run C st K = some res) :
    (∃ r p, (kp r p).run C st K = some res ∧ AlOk w st V r p (a.eval x)) ∨
    (∃ t y b k, (kd t y).run C st K = some res ∧ a.eval x = .pointer (some ⟨b, k, none⟩) ∧ holdsW w b (k + t.size) false ∧ rep F w t .s y (rowW w b k) none' ∧ F b) := by
  unfold rdP at h
  obtain ⟨sv, h1, hx⟩ := rdO_inv h
  have hptr : ∀ {T' : TypeId} {t : Ty} {y : t.I} {val : Value} {fq : Blks}, isV (.ptr T' t) val → rep F w (.ptr T' t) .s (some y) (cv val) fq → ∃ b k, val = .pointer (some ⟨b, k, none⟩) ∧ holdsW w b (k + t.size) false ∧ rep F w t .s y (rowW w b k) none' ∧ F b := by
    intro T' t y val fq hv hr
    simp only [rep] at hr
    obtain ⟨A, e1, ad, rfl, hsp, e2, e3, e4⟩ := hr
    obtain ⟨b, k, sp⟩ := ad
    simp only at hsp
    subst hsp
    refine ⟨b, k, ?_, e3, e4, e2⟩
    have h2 : val = valOf (.ptr T' t) (cv val) := hv
    rw [h2]
    simp only [valOf, Ty.agg, Bool.false_eq_true, if_false]
    exact e1
  rcases hx with ⟨s, rfl, hs, rfl⟩ | ⟨c, rfl, rfl⟩ | ⟨f, rfl, rfl⟩
  · have hev : a.eval (.tmp s) = V (env.b + s) := hA.tmps s hs
    rw [hev]
    have hsv := hS.sv (env.b + s)
    split at h1
    · rename_i r p hst
      rw [hst] at hsv
      exact .inl ⟨r, p, h1, hsv⟩
    · rename_i T' t y hst
      rw [hst] at hsv
      cases y with
      | none => simp [RM.run] at h1
      | some y =>
        obtain ⟨b, k, e1, e2, e3, e4⟩ := hptr (hsv.1 nofun) hsv.2
        exact .inr ⟨t, y, b, k, h1, e1, e2, e3, e4⟩
    · rename_i T' t m y hst
      rw [hst] at hsv
      simp only [self] at h1
      refine .inl ⟨env.b + s, [.der], h1, ?_⟩
      intro t0 m0 x0 h0
      rw [hst] at h0
      cases h0
      have hr := hsv.2
      simp only [rep] at hr
      obtain ⟨A, e1, ad, rfl, hsp, e2, e3, f, e4, e5⟩ := hr
      obtain ⟨b, k, sp⟩ := ad
      simp only at hsp
      subst hsp
      refine ⟨rfl, by simp [ownP], by simp [inP], t, rowW w b k, b, k, ?_, ?_⟩
      · simp only [rs, e1]
      · have h2 : V (env.b + s) = valOf (.ptr T' t) (cv (V (env.b + s))) := hsv.1 nofun
        rw [h2]
        simp only [valOf, Ty.agg, Bool.false_eq_true, if_false]
        exact e1
    · rename_i r p hst
      rw [hst] at hsv
      simp only [RM.run] at h1
      split at h1
      · rename_i t0 m0 x0 hr0
        split at h1
        · rename_i T' t m y hg
          simp only [memP, RM.run, hr0] at h1
          split at h1
          · rename_i hrb
            refine .inl ⟨r, _, h1, ?_⟩
            intro t1 m1 x1 h2
            rw [hr0] at h2
            cases h2
            obtain ⟨a1, a2, u1, c1, ad, a3, a4⟩ := hsv t0 m0 x0 hr0
            have hrr := hS.sv r
            rw [hr0] at hrr
            obtain ⟨c2, ad2, fp2, b1, b2, b3⟩ := rep_get (ad := none) hrr.2 hg a2 nofun
            rw [a3] at b1
            simp only [Option.some.injEq, Prod.mk.injEq] at b1
            obtain ⟨rfl, rfl, rfl⟩ := b1
            simp only [rep] at b2
            obtain ⟨A, e1, ad', rfl, hsp, e2, e3, f, e4, e5⟩ := b2
            obtain ⟨b, k, sp⟩ := ad'
            simp only at hsp
            subst hsp
            refine ⟨hrb, ownP_app hg a1 (by simp [ownP]), inP_app hg a2 (by simp [inP]), t, rowW w b k, b, k, ?_, ?_⟩
            · rw [rs_app a3]
              simp only [rs, e1]
            · rw [a4]
              simp only [valOf, Ty.agg, Bool.false_eq_true, if_false]
              exact e1
          · simp [RM.run] at h1
        · simp [RM.run] at h1
      · simp [RM.run] at h1
    · simp [RM.run] at h1
  · cases hc : cst env T c with
    | v t m y =>
      rw [hc] at h1
      unfold cst at hc
      (repeat' split at hc) <;> cases hc <;> simp [RM.run] at h1
    | al r p => unfold cst at hc; (repeat' split at hc) <;> cases hc
    | lz r p => unfold cst at hc; (repeat' split at hc) <;> cases hc
    | _ => rw [hc] at h1; simp [RM.run] at h1
  · simp [RM.run] at h1

/-- what lies at a place of memory -/
theorem place_info {r : Nat} {p : List PE} {val : Value} {t0 : Ty} {m0 : Md} {x0 : t0.I} {u : Ty} {mu : Md} {y : u.I} (hS : SR e F w st V fp fl) (ha : AlOk w st V r p val) (hr : st r = .v t0 m0 x0) (hg : getP t0 m0 x0 p = some ⟨u, mu, y⟩) :
    ∃ b k fold, val = .pointer (some ⟨b, k, none⟩) ∧ rs w t0 (cv (V r)) none p = some (u, rowW w b k, some (b, k)) ∧ ownP t0 m0 p ∧ inP t0 x0 p ∧ Put F w t0 m0 x0 (V r) (fp r) p u (rowW w b k) (some (b, k)) fold ∧ rep F w u mu y (rowW w b k) fold ∧ holdsW w b (k + u.size) true := by
  obtain ⟨a1, a2, a3, u1, c1, b, k, a4, a5⟩ := ha t0 m0 x0 hr
  have hrr := hS.sv r
  rw [hr] at hrr
  obtain ⟨fold, P⟩ := put_of hrr.2 (hS.inH r) hS.inF a3 a2 a4
  obtain ⟨mo, yo, g1, g2⟩ := P.old
  rw [hg] at g1
  simp only [Option.some.injEq] at g1
  cases g1
  obtain ⟨k1, k2, k3, k4⟩ := P.lies b k rfl
  subst k4
  exact ⟨b, k, fold, a5, a4, a2, a3, P, g2, k3⟩

/-- a slot's own pointer: its place -/
theorem al_der {s : Nat} {T : TypeId} {t : Ty} {m : Md} {y : t.I} (hS : SR e F w st V fp fl) (hst : st s = .v (.ptr T t) (.o m) (some y)) : AlOk w st V s [.der] (V s) := by
  have hsv := hS.sv s
  rw [hst] at hsv
  intro t0 m0 x0 h0
  rw [hst] at h0
  cases h0
  have hr := hsv.2
  simp only [rep] at hr
  obtain ⟨A, e1, ad, rfl, hsp, e2, e3, f, e4, e5⟩ := hr
  obtain ⟨b, k, sp⟩ := ad
  simp only at hsp
  subst hsp
  refine ⟨rfl, by simp [ownP], by simp [inP], t, rowW w b k, b, k, ?_, ?_⟩
  · simp only [rs, e1]
  · have h2 : V s = valOf (.ptr T t) (cv (V s)) := hsv.1 nofun
    rw [h2]
    simp only [valOf, Ty.agg, Bool.false_eq_true, if_false]
    exact e1

theorem ownR_inv {α : Type} {Kk : α → St → Option R} {r : Nat} {k : RM α} (hS : SR e F w st V fp fl) (h : (ownR r k).run C st Kk = some res) : k.run C st Kk = some res ∧ AlOk w st V r [.der] (V r) := by
  simp only [ownR, RM.run] at h
  split at h
  · rename_i T t m y hst
    exact ⟨h, al_der hS hst⟩
  · simp [RM.run] at h

theorem isPtr_wt {T : TypeId} (hE : EnvTy P env) (h : isPtr env T = true) : ∃ U t, wt P (.ptr U t) T = true := by
  unfold isPtr at h
  split at h
  · rename_i U t hT; exact ⟨U, t, hE.ty _ _ hT⟩
  · cases h

/-- the value of a slot that holds a boxed pointer -/
theorem bx_val {T : TypeId} {x : Operand} {r : Nat} {p : List PE} (hS : SR e F w st V fp fl) (hA : AR env gh a V) (hx : (∃ t, x = .tmp t ∧ t < env.n ∧ (.bx r p : SV) = st (env.b + t)) ∨ (∃ c, x = .const c ∧ (.bx r p : SV) = cst env T c) ∨ (∃ f, x = .func f ∧ (.bx r p : SV) = .fn f [] [])) : BxOk F w V r (a.eval x) := by
  rcases hx with ⟨s, rfl, hs, h3⟩ | ⟨c, rfl, h3⟩ | ⟨f', rfl, h3⟩
  · have hev : a.eval (.tmp s) = V (env.b + s) := hA.tmps s hs
    have hsv := hS.sv (env.b + s)
    rw [← h3] at hsv
    rw [hev]
    exact hsv
  · unfold cst at h3; (repeat' split at h3) <;> cases h3
  · cases h3

theorem op_loadB {T : TypeId} {x : Operand} {r : Nat} (hE : EnvTy P env) (ho : o.op = .load T x) (hb : BxOk F w V r (a.eval x)) (hS : SR e F w st V fp none') (hA : AR env gh a V) (hN : Nxt env gh e K res next) (h : (loadBx env o T r).run C st K = some res) :
    ∃ v, (∀ w', (∀ b, F b → Same w w' b) → (execOp a.eval o).run P w' = .ok (.value v) w') ∧ next (a.put o.dst v) w := by
  unfold loadBx at h
  split at h
  · rename_i hT
    obtain ⟨U, t, hw⟩ := isPtr_wt hE hT
    obtain ⟨h1, ha⟩ := ownR_inv hS h
    obtain ⟨_, b, k, e1, e2, e3, e4⟩ := hb
    obtain ⟨st', V', fp', k1, k2, k3⟩ := fin_invO (v := V r) (fq := none') hS hA rfl h1 ha (fun _ hb => hb)
    refine ⟨V r, fun w' hw' => ?_, hN _ _ _ _ _ _ k2 k3 k1⟩
    have hsm := hw' b e2
    have e3' := (holds_same hsm).2 e3
    rw [← e4, ← row_same hsm]
    simp only [execOp, ho, e1, Instr.loadAt, Instr.sureAddr, Sem.run_bind, Sem.run_pure, Result.andThen_ok, pure_bind, run_loadVar (t := .ptr U t) hw e3']
    simp only [valOf, Ty.agg, Bool.false_eq_true, if_false]
  · simp [RM.run] at h

theorem op_load {T : TypeId} {x : Operand} (hE : EnvTy P env) (ho : o.op = .load T x) (hS : SR e F w st V fp none') (hA : AR env gh a V) (hN : Nxt env gh e K res next) (h : (evOp env o).run C st K = some res) : wpw P o a w next := by
  simp only [evOp, ho] at h
  obtain ⟨sv, h, hx⟩ := rdO_inv h
  split at h
  · obtain ⟨v, v1, v2⟩ := op_loadB hE ho (bx_val hS hA hx) hS hA hN h
    exact ⟨v, v1 w (fun _ _ => rfl), v2⟩
  rcases rdP_inv hS hA h with ⟨r, p, h1, ha⟩ | ⟨t, y, b, k, h1, e1, e2, e3, e4⟩
  · simp only [atP, RM.run] at h1
    split at h1
    · rename_i t0 m0 x0 hr
      split at h1
      · rename_i u mu y hg
        obtain ⟨b, k, fold, e1, e2, e3, e4, P', e5, e6⟩ := place_info hS ha hr hg
        split at h1
        · rename_i hT
          have hrun : (execOp a.eval o).run P w = .ok (.value (valOf u (rowW w b k))) w := by
            simp only [execOp, ho, e1, Instr.loadAt, Instr.sureAddr, Sem.run_bind, Sem.run_pure, Result.andThen_ok, pure_bind, run_loadVar (Env.is_ok hE hT) e6]
          split at h1
          · have h1' : u.agg = false → one (rowW w b k 0) := fun hag => rep_one e5 nofun hag
            exact endVw hS hA hN h1 (fun _ => isV_valOf h1') (rep_s (fp' := none') (rep_cells (fun j hj => (valOf_cv h1' j hj).symm) e5)) (fun _ hb => hb) hrun
          · simp [RM.run] at h1
          · refine endOw (fq := none') hS hA hN rfl h1 ?_ (fun _ hb => hb) hrun
            intro t1 m1 x1 h2
            rw [hr] at h2
            cases h2
            exact ⟨e3, e4, u, _, _, e2, rfl⟩
        · simp [RM.run] at h1
      · simp [RM.run] at h1
    · simp [RM.run] at h1
  · split at h1
    · rename_i hT
      have h1' : t.agg = false → one (rowW w b k 0) := fun hag => rep_one e3 nofun hag
      refine endVw hS hA hN h1 (fun _ => isV_valOf h1') (rep_s (fp' := none') (rep_cells (fun j hj => (valOf_cv h1' j hj).symm) e3)) (fun _ hb => hb) ?_
      simp only [execOp, ho, e1, Instr.loadAt, Instr.sureAddr, Sem.run_bind, Sem.run_pure, Result.andThen_ok, pure_bind, run_loadVar (Env.is_ok hE hT) e2]
    · simp [RM.run] at h1

end
end Go.Trm
