import Derived.Test.YthidebepdpkgkaaTrmOps15
set_option linter.unusedVariables false
set_option linter.unusedSimpArgs false
namespace Go.Trm

theorem resV_v : ∀ {ks : List (Ty × Md)} {d : DR ks} {k : Nat} {s : SV}, (resV ks d)[k]? = some s → ∃ q x, ks[k]? = some q ∧ s = .v q.1 q.2 x
  | [], _, k, s, h => by simp [resV] at h
  | q :: ks, d, 0, s, h => by
    simp only [resV, List.getElem?_cons_zero, Option.some.injEq] at h
    exact ⟨q, _, rfl, h.symm⟩
  | q :: ks, d, k + 1, s, h => by
    simp only [resV, List.getElem?_cons_succ] at h
    obtain ⟨q', x, h1, h2⟩ := resV_v h
    exact ⟨q', x, by simpa using h1, h2⟩

theorem resS_cases (ks : List (Ty × Md)) (d : DR ks) : (∃ q x, q ∈ ks ∧ resS ks d = .v q.1 q.2 x) ∨ resS ks d = .tup (resV ks d) := by
  unfold resS
  split
  · rename_i x hx
    obtain ⟨q, y, h1, h2⟩ := resV_v (k := 0) (s := x) (by rw [hx]; rfl)
    exact .inl ⟨q, y, List.mem_of_getElem? h1, h2⟩
  · exact .inr rfl

section
variable {P : Program} {env : Env} {e : Entry} {F : Blks} {w : World} {st : St} {V : Nat → Value} {fp : Nat → Blks} {fl : Blks} {a : Act} {o : Oper} {R : Type} {K : Unit → St → Option R} {res : R} {next : Act → World → Prop} {Q : Exit → Act → World → Prop}

theorem ResR.clsd {F F' : Blks} {v : Value} {fo : Blks} {ks : List (Ty × Md)} {d : DR ks} (hc : ks.all (fun k => Trm.clsd k.1 k.2) = true) (h : ResR F w v fo (resS ks d)) : ResR F' w v fo (resS ks d) := by
  rcases resS_cases ks d with ⟨q, x, hq, hr⟩ | hr
  · rw [hr] at h ⊢
    exact ⟨h.1, rep_clsd (List.all_eq_true.1 hc q hq) h.2⟩
  · rw [hr] at h ⊢
    obtain ⟨vs, e1, e2, fs, e3, e4, e5⟩ := h
    refine ⟨vs, e1, e2, fs, e3, e4, fun k t m x hk => ?_⟩
    obtain ⟨u, k1, k2, k3⟩ := e5 k t m x hk
    obtain ⟨q, y, h1, h2⟩ := resV_v hk
    cases h2
    exact ⟨u, k1, k2, rep_clsd (List.all_eq_true.1 hc q (List.mem_of_getElem? h1)) k3⟩

theorem BackR.clsd {F F' : Blks} {w : World} : ∀ {ks : List PK} {b : DB ks} {vs : List Value} {fs : Nat → Blks}, ks.all (fun
    | .ref t _ m' => Trm.clsd t m'
    | _ => true) = true → BackR F w ks b vs fs → BackR F' w ks b vs fs
  | [], _, vs, _, _, _ => by cases vs <;> trivial
  | k :: ks, _, [], _, _, _ => backR_nil
  | .val _ _ :: ks, b, v :: vs, fs, hc, h => by
    rw [List.all_cons, Bool.and_eq_true] at hc
    exact BackR.clsd (ks := ks) hc.2 (show BackR F w ks b vs _ from h)
  | .fn _ :: ks, b, v :: vs, fs, hc, h => by
    rw [List.all_cons, Bool.and_eq_true] at hc
    exact BackR.clsd (ks := ks) hc.2 (show BackR F w ks b vs _ from h)
  | .ref t m m' :: ks, b, v :: vs, fs, hc, h => by
    rw [List.all_cons, Bool.and_eq_true] at hc
    obtain ⟨h1, h2, h3⟩ := h
    exact ⟨h1, rep_clsd (by simpa only [Trm.clsd] using hc.1) h2, BackR.clsd (ks := ks) hc.2 h3⟩

theorem fin_invR {ks : List (Ty × Md)} {d : DR ks} {v : Value} {fo : Blks} (hS : SR e F w st V fp fl) (hA : AR env a V) (h : (fin env o (resS ks d)).run st K = some res) (hr : ResR F w v fo (resS ks d)) (hq : ∀ b, fo b → fl b) :
    ∃ st' V' fp' F', K () st' = some res ∧ SR e F' w st' V' fp' (fun _ => False) ∧ AR env (a.put o.dst v) V' := by
  rcases resS_cases ks d with ⟨q, x, hq', hs⟩ | hs
  · rw [hs] at h hr
    exact fin_invV hS hA h hr.1 hr.2 hq
  · rw [hs] at h hr
    obtain ⟨st', V', fp', h1, h2, h3⟩ := fin_invO hS hA rfl h hr hq
    exact ⟨st', V', fp', F, h1, h2, h3⟩

theorem op_call {c : Call} {x : Operand} (hF : EnvFn P env) (ho : o.op = .call c) (hc : c.callee = .value x) (hS : SR e F w st V fp none') (hA : AR env a V) (hN : Nxt env e K res next) (h : (evOp env o).run st K = some res) : o.wp P a w next Q := by
  simp only [evOp, ho, hc] at h
  obtain ⟨sv, h1, hx⟩ := rdO_inv h
  split at h1
  · rename_i f
    have hv : a.eval x = .func (.func f) #[] #[] := by
      rcases hx with ⟨s, rfl, hs, h3⟩ | ⟨c, rfl, h3⟩ | ⟨f', rfl, h3⟩
      · have hev : a.eval (.tmp s) = V s := hA.tmps s hs
        have hsv := hS.sv s
        rw [← h3] at hsv
        obtain ⟨vs, e1, e2, _⟩ := hsv
        have : vs = [] := List.eq_nil_of_length_eq_zero e2
        rw [hev, e1, this]
      · unfold cst at h3; (repeat' split at h3) <;> cases h3
      · cases h3; rfl
    unfold enter at h1
    split at h1
    · simp [RM.run] at h1
    · rename_i cs hg
      have H := hF f cs hg
      obtain ⟨fn, code, f1, f2, f3⟩ := H.fn
      obtain ⟨rs, h1r, hal⟩ := refsOf_inv hA hS h1
      obtain ⟨st', fp', fl', F', d, ms, bs, fps, k1, k2, k3, k4, k5, k6, k7, k8, k9⟩ := gather_inv hA hS h1r
      simp only [RM.run] at k1
      have hrun : (execOp a.eval o).run P w = .ok (.enter f (c.args.toList.map a.eval).toArray) w := by
        have e1 : (c.args.toList.map a.eval).toArray = c.args.map a.eval := by apply Array.ext'; simp
        rw [e1]
        simp only [execOp, ho, resolve, hc, hv, Deferred.ofValue, Sem.run_bind, Sem.run_pure, Result.andThen_ok, invoke, Array.append_empty, Array.empty_append]
        exact Go.MuLone.run_callFunc_enter f1 f2 f3 _ _
      have hcalls := H.calls (fun b => F' b ∨ ∃ r, r ∈ bs ∧ fp' r b) w d _ fps _ _ _ (fun b hb => by
          rcases hb with hb | ⟨r, _, hb⟩
          · exact k2.inF b hb
          · exact k2.inH r b hb) k5 (fun i b hb => ⟨fun hc => by
            rcases hc with hc | ⟨r, _, hc⟩
            · exact k2.flF b (k6 i b hb).1 hc
            · exact k2.flD r b hc (k6 i b hb).1, k2.flH b (k6 i b hb).1⟩) k9 k1
      unfold Oper.wp
      rw [hrun]
      refine Calls.mono hcalls fun e' w' hpost => ?_
      obtain ⟨v, ro, rb, F2, fo, fb, rfl, p1, p2, p3, p4, p5, ⟨pb1, pb2, pb3⟩, p6, p7⟩ := hpost
      have hW : SR e F' w' st' V fp' (fun b => fl' b ∨ (w.heap.size ≤ b ∧ b < w'.heap.size)) := by
        refine k2.world (fun b hb hnf => p4 b hb (fun i hi => hnf (k6 i b hi).1)) p3 (fun b hb => ?_)
        rcases hb with hb | hb
        · exact ⟨.inl hb, Nat.lt_of_lt_of_le (k2.flH b hb) p3.size⟩
        · exact ⟨.inr hb.1, hb.2⟩
      have hfo : ∀ b, (fo b ∨ ∃ i, fb i b) → fl' b ∨ (w.heap.size ≤ b ∧ b < w'.heap.size) := fun b hb => by
        obtain ⟨_, q2, q3⟩ := p6 b hb
        rcases q3 with ⟨i, q3⟩ | q3
        · exact .inl (k6 i b q3).1
        · exact .inr ⟨q3, q2⟩
      cases hcl : cs.clsd with
      | true =>
        have hcl2 := hcl
        unfold CSpec.clsd at hcl2
        simp only [Bool.and_eq_true] at hcl2
        obtain ⟨st1, fp1, q0, hW1⟩ := backs_inv hW (BackR.clsd (F' := F') hcl2.2 pb3) hal pb1 (fun i b hb => hfo b (.inr ⟨i, hb⟩)) p1
        obtain ⟨st2, V2, fp2, F3, q1, q2, q3⟩ := fin_invR hW1 hA q0 (ResR.clsd (F' := F') hcl2.1 p5) (fun b hb => ⟨hfo b (.inl hb), fun i hc => pb2 i b hc hb⟩)
        exact hN _ _ _ _ _ _ q2 q3 q1
      | false =>
        have hbs := k8 hcl
        have hW2 : SR e F2 w' st' V fp' (fun b => fo b ∨ ∃ i, fb i b) := hW.moreF (fun b hb => p2 b (.inl hb)) (fun b hb => by
            obtain ⟨q1, q2⟩ := p7 b hb
            rcases q2 with (q2 | ⟨r, hr, _⟩) | ⟨i, q2⟩ | q2
            · exact .inl q2
            · rw [hbs] at hr; cases hr
            · exact .inr (.inl (k6 i b q2).1)
            · exact .inr (.inr ⟨q2, q1⟩)) hfo (fun b hb => (p6 b hb).1)
        obtain ⟨st1, fp1, q0, hW1⟩ := backs_inv hW2 pb3 hal pb1 (fun i b hb => .inr ⟨i, hb⟩) p1
        obtain ⟨st2, V2, fp2, F3, q1, q2, q3⟩ := fin_invR hW1 hA q0 p5 (fun b hb => ⟨.inl hb, fun i hc => pb2 i b hc hb⟩)
        exact hN _ _ _ _ _ _ q2 q3 q1
  · simp [RM.run] at h1

theorem evOp_pure (hE : EnvTy P env) (hp : isPure o.op = true) (hS : SR e F w st V fp none') (hA : AR env a V) (hN : Nxt env e K res next) (h : (evOp env o).run st K = some res) : wpp P o a w next := by
  have hfail : ∀ {p : Op}, o.op = p → (RM.fail : RM Unit).run st K = some res → wpp P o a w next := fun _ h => by simp [RM.run] at h
  cases ho : o.op with
  | move x => exact op_move ho hS hA hN h
  | assign x => exact op_assign ho hS hA hN h
  | pick c x y => exact op_pick ho hS hA hN h
  | build T ps => exact op_build hE ho hS hA hN h
  | nilCheck x => exact op_nilCheck ho hS hA hN h
  | binOp op T x y U => exact op_binOp hE ho hS hA hN h
  | unOp op T x => exact op_unOp ho hS hA hN h
  | makeFunc fn first caps =>
    cases fn with
    | func f => exact op_makeFunc ho hS hA hN h
    | _ => simp only [evOp, ho] at h; exact hfail ho h
  | slice T x lo hi mx =>
    cases mx with
    | none => exact op_slice hE ho hS hA hN h
    | some _ => simp only [evOp, ho] at h; exact hfail ho h
  | fieldAddr S x i => exact op_fieldAddr hE ho hS hA hN h
  | field T x i => exact op_field hE ho hS hA hN h
  | indexAddr T x i => exact op_indexAddr hE ho hS hA hN h
  | index T x i => exact op_index hE ho hS hA hN h
  | extract x i => exact op_extract ho hS hA hN h
  | call c =>
    rw [ho] at hp
    cases hc : c.callee with
    | builtin b =>
      simp only [isPure, hc] at hp
      simp only [evOp, ho, hc] at h
      generalize hxs : c.args.toList = xs at h
      generalize hTs : c.argTypes.toList = Ts at h
      have h0 := h
      unfold evB at h
      split at h
      · exact op_len hE ho hc hxs hTs hS hA hN h0
      · exact op_min ho hc hxs hS hA hN (by rw [hTs]; exact h0)
      · exact op_max ho hc hxs hS hA hN (by rw [hTs]; exact h0)
      · simp at hp
      · exact hfail ho h
    | _ => simp only [isPure, hc] at hp; cases hp
  | _ => rw [ho] at hp; cases hp

/-- EVERY OPERATION -/
theorem evOp_sound (hE : EnvTy P env) (hF : EnvFn P env) (hS : SR e F w st V fp none') (hA : AR env a V) (hN : Nxt env e K res next) (h : (evOp env o).run st K = some res) : o.wp P a w next Q := by
  have hfail : ∀ {p : Op}, o.op = p → (RM.fail : RM Unit).run st K = some res → o.wp P a w next Q := fun _ h => by simp [RM.run] at h
  cases ho : o.op with
  | move x => exact wpp_wp (op_move ho hS hA hN h)
  | assign x => exact wpp_wp (op_assign ho hS hA hN h)
  | pick c x y => exact wpp_wp (op_pick ho hS hA hN h)
  | alloc T => exact op_alloc hE ho hS hA hN h
  | box T x => exact op_box hE ho hS hA hN h
  | build T ps => exact wpp_wp (op_build hE ho hS hA hN h)
  | buildSlice T n ps => exact op_buildSlice hE ho hS hA hN h
  | load T x => exact wpw_wp (op_load hE ho hS hA hN h)
  | store T x y => exact op_store hE ho hS hA hN h
  | nilCheck x => exact wpp_wp (op_nilCheck ho hS hA hN h)
  | binOp op T x y U => exact wpp_wp (op_binOp hE ho hS hA hN h)
  | unOp op T x => exact wpp_wp (op_unOp ho hS hA hN h)
  | convert S T x => exact op_convert hE ho hS hA hN h
  | makeFunc fn first caps =>
    cases fn with
    | func f => exact wpp_wp (op_makeFunc ho hS hA hN h)
    | _ => simp only [evOp, ho] at h; exact hfail ho h
  | makeSlice T n c => exact op_makeSlice hE ho hS hA hN h
  | slice T x lo hi mx =>
    cases mx with
    | none => exact wpp_wp (op_slice hE ho hS hA hN h)
    | some _ => simp only [evOp, ho] at h; exact hfail ho h
  | fieldAddr S x i => exact wpp_wp (op_fieldAddr hE ho hS hA hN h)
  | field T x i => exact wpp_wp (op_field hE ho hS hA hN h)
  | indexAddr T x i => exact wpp_wp (op_indexAddr hE ho hS hA hN h)
  | index T x i => exact wpp_wp (op_index hE ho hS hA hN h)
  | extract x i => exact wpp_wp (op_extract ho hS hA hN h)
  | call c =>
    cases hc : c.callee with
    | value x => exact op_call hF ho hc hS hA hN h
    | builtin b =>
      simp only [evOp, ho, hc] at h
      generalize hxs : c.args.toList = xs at h
      generalize hTs : c.argTypes.toList = Ts at h
      have h0 := h
      unfold evB at h
      split at h
      · exact wpp_wp (op_len hE ho hc hxs hTs hS hA hN h0)
      · exact wpp_wp (op_min ho hc hxs hS hA hN (by rw [hTs]; exact h0))
      · exact wpp_wp (op_max ho hc hxs hS hA hN (by rw [hTs]; exact h0))
      · exact op_append hE ho hc hxs hTs hS hA hN h0
      · exact hfail ho h
    | _ => simp only [evOp, ho, hc] at h; exact hfail ho h
  | _ => simp only [evOp, ho] at h; exact hfail ho h

end
end Go.Trm
