import Derived.Test.YtiooemenojlbjaaGreatTrmOps15
import Derived.Test.YtiooemenojlbjaaGreatTrmOpsC
set_option linter.unusedVariables false
set_option linter.unusedSimpArgs false
namespace Go.Trm

theorem resV_v : ∀ {ks : List (Ty × Md)} {d : DR ks} {k : Nat} {s : SV}, (resV ks d)[k]? = some s → ∃ q x, ks[k]? = some q ∧ s = .v q.1 q.2 x
  | [], _, k, s, h => by simp [resV] at h
  | q :: ks, d, 0, s, h => by
    simp only [resV, List.getElem?_cons_zero, Option.some.injEq] at h
    exact ⟨q, _, rfl, h.symm⟩
  | q :: ks, d, k + 1, s, h => by
    simp only [resV, List.getElem?_cons_succ] at h
    obtain ⟨q', x, h1, h2⟩ := resV_v h
    exact ⟨q', x, by simpa using h1, h2⟩

theorem resS_cases (ks : List (Ty × Md)) (d : DR ks) : (∃ q x, q ∈ ks ∧ resS ks d = .v q.1 q.2 x) ∨ resS ks d = .tup (resV ks d) := by
  unfold resS
  split
  · rename_i x hx
    obtain ⟨q, y, h1, h2⟩ := resV_v (k := 0) (s := x) (by rw [hx]; rfl)
    exact .inl ⟨q, y, List.mem_of_getElem? h1, h2⟩
  · exact .inr rfl

section
variable {P : Program} {env : Env} {e : Entry} {F : Blks} {w : World} {st : St} {V : Nat → Value} {fp : Nat → Blks} {fl : Blks} {a : Act} {o : Oper} {R : Type} {K : Unit → St → Option R} {res : R} {C : Cx R} {gh : Nat → Value} {next : Act → World → Prop} {Q : Exit → Act → World → Prop}

theorem ResR.clsd {F F' : Blks} {v : Value} {fo : Blks} {ks : List (Ty × Md)} {d : DR ks} (hc : ks.all (fun k => Trm.clsd k.1 k.2) = true) (h : ResR F w v fo (resS ks d)) : ResR F' w v fo (resS ks d) := by
  rcases resS_cases ks d with ⟨q, x, hq, hr⟩ | hr
  · rw [hr] at h ⊢
    exact ⟨h.1, rep_clsd (List.all_eq_true.1 hc q hq) h.2⟩
  · rw [hr] at h ⊢
    obtain ⟨vs, e1, e2, fs, e3, e4, e5⟩ := h
    refine ⟨vs, e1, e2, fs, e3, e4, fun k t m x hk => ?_⟩
    obtain ⟨u, k1, k2, k3⟩ := e5 k t m x hk
    obtain ⟨q, y, h1, h2⟩ := resV_v hk
    cases h2
    exact ⟨u, k1, k2, rep_clsd (List.all_eq_true.1 hc q (List.mem_of_getElem? h1)) k3⟩

theorem BackR.clsd {F F' : Blks} {w : World} : ∀ {ks : List PK} {b : DB ks} {vs : List Value} {fs : Nat → Blks}, ks.all (fun
    | .ref t _ m' => Trm.clsd t m'
    | _ => true) = true → BackR F w ks b vs fs → BackR F' w ks b vs fs
  | [], _, vs, _, _, _ => by cases vs <;> trivial
  | k :: ks, _, [], _, _, _ => backR_nil
  | .val _ _ :: ks, b, v :: vs, fs, hc, h => by
    rw [List.all_cons, Bool.and_eq_true] at hc
    exact BackR.clsd (ks := ks) hc.2 (show BackR F w ks b vs _ from h)
  | .fn _ :: ks, b, v :: vs, fs, hc, h => by
    rw [List.all_cons, Bool.and_eq_true] at hc
    exact BackR.clsd (ks := ks) hc.2 (show BackR F w ks b vs _ from h)
  | .ref t m m' :: ks, b, v :: vs, fs, hc, h => by
    rw [List.all_cons, Bool.and_eq_true] at hc
    obtain ⟨h1, h2, h3⟩ := h
    exact ⟨h1, rep_clsd (by simpa only [Trm.clsd] using hc.1) h2, BackR.clsd (ks := ks) hc.2 h3⟩

theorem rep_any' {F F' : Blks} {w : World} {t : Ty} {m : Md} {x : t.I} {c : Cells} {fq : Blks} (hf : t.flat = true) (hr : rep F w t m x c fq) : rep F' w t m x c fq := by
  induction t generalizing m c fq with
  | sl e t ih => cases hf
  | ptr e t ih => cases hf
  | pair a b iha ihb =>
    simp only [Ty.flat, Bool.and_eq_true] at hf
    obtain ⟨fa, fb, h1, h2, h3, ra, rb⟩ := rep_pair hr
    have : ∃ fa fb : Blks, (∀ i, fa i → fq i) ∧ (∀ i, fb i → fq i) ∧ (∀ i, fa i → ¬ fb i) ∧ rep F' w a m.fst x.1 c fa ∧ rep F' w b m.snd x.2 (fun j => c (a.size + j)) fb := ⟨fa, fb, h1, h2, h3, iha hf.1 ra, ihb hf.2 rb⟩
    cases m with
    | j => exact rep_j
    | _ => simpa only [rep] using this
  | arr n t ih =>
    cases m with
    | j => exact rep_j
    | _ =>
      simp only [rep] at hr ⊢
      obtain ⟨hn, fs, h1, h2, r⟩ := hr
      exact ⟨hn, fs, h1, h2, fun i hi => ih hf (r i hi)⟩
  | _ => cases m <;> simp only [rep] at hr ⊢ <;> exact hr

theorem fin_invS {sv : SV} {v : Value} {fo : Blks} (hS : SR e F w st V fp fl) (hA : AR env gh a V) (h : (fin env o sv).run C st K = some res) (hr : svR F w st V fo v sv) (hq : ∀ b, fo b → fl b) :
    ∃ st' V' fp' F', K () st' = some res ∧ SR e F' w st' V' fp' (fun _ => False) ∧ AR env gh (a.put o.dst v) V' := by
  cases sv with
  | v t m y => exact fin_invV hS hA h hr.1 hr.2 hq
  | _ =>
    obtain ⟨st', V', fp', h1, h2, h3⟩ := fin_invO hS hA rfl h hr hq
    exact ⟨st', V', fp', F, h1, h2, h3⟩

theorem fin_invR {ks : List (Ty × Md)} {d : DR ks} {v : Value} {fo : Blks} (hS : SR e F w st V fp fl) (hA : AR env gh a V) (h : (fin env o (resS ks d)).run C st K = some res) (hr : ResR F w v fo (resS ks d)) (hq : ∀ b, fo b → fl b) :
    ∃ st' V' fp' F', K () st' = some res ∧ SR e F' w st' V' fp' (fun _ => False) ∧ AR env gh (a.put o.dst v) V' := by
  rcases resS_cases ks d with ⟨q, x, hq', hs⟩ | hs
  · rw [hs] at h hr
    exact fin_invV hS hA h hr.1 hr.2 hq
  · rw [hs] at h hr
    obtain ⟨st', V', fp', h1, h2, h3⟩ := fin_invO hS hA rfl h hr hq
    exact ⟨st', V', fp', F, h1, h2, h3⟩

/-- CALLS THAT ARE LOOKED INTO are what they are -/
def InlOk (P : Program) (lim : Nat) (inl : Inl) : Prop := ∀ f d (R : Type) st xs (K : SV → St → Option R) (Kp : PanV → St → Option R) res, inl f d R st xs K Kp = some res →
  (∃ fn code, P.funcs[f]? = some fn ∧ (fn.name == "runtime.NumGoroutine") = false ∧ fn.body = some code) ∧
  ∀ (e : Entry) (F : Blks) (w : World) (V : Nat → Value) (fp : Nat → Blks) (vals : List Value) (Rp : Ending → World → Prop), SR e F w st V fp none' → vals.length = xs.length → (∀ (k : Nat) sv v, xs[k]? = some sv → vals[k]? = some v → svR F w st V none' v sv) →
    (∀ F' w' st' V' fp' fo v sv, SR e F' w' st' V' fp' fo → (∀ i, i < lim ∨ gh0 ≤ i → V' i = V i) → svR F' w' st' V' fo v sv → K sv st' = some res → Rp (.returned v) w') →
    (∀ F' w' st' V' fp' p ch, SR e F' w' st' V' fp' none' → (∀ i, i < lim ∨ gh0 ≤ i → V' i = V i) → PanR F' w' p ch → Kp p st' = some res → Rp (.panicked ch) w') →
    Calls P f vals.toArray w Rp

/-- the first slot behind a frame's -/
def Env.top (env : Env) : Nat := env.b + env.n + 1

structure CxOk (P : Program) (env : Env) (gh : Nat → Value) (e : Entry) (C : Cx R) (res : R) (Q : Exit → Act → World → Prop) : Prop where
  pan : ∀ p ch F w st V fp a, SR e F w st V fp none' → AR env gh a V → PanR F w p ch → C.kp p st = some res → Q (.panic ch) a w
  inl : ∃ inl : Inl, InlOk P env.top inl ∧ ∀ f d st xs k, C.inl f d st xs k = inl f d R st xs k C.kp

theorem AR.congr {V' : Nat → Value} (hA : AR env gh a V) (h : ∀ i, i < env.top ∨ gh0 ≤ i → V' i = V i) : AR env gh a V' := by
  unfold Env.top at h
  refine ⟨hA.size, fun i hi => ?_, ?_, hA.lim, fun i hi => ?_⟩
  · rw [h _ (.inl (by omega))]; exact hA.tmps i hi
  · rw [h _ (.inl (by omega))]; exact hA.defers
  · rw [h i (by have := hA.lim; omega)]; exact hA.keep i hi

theorem argSVs_inv {α : Type} {Kk : α → St → Option R} (hS : SR e F w st V fp fl) (hA : AR env gh a V) : ∀ {xs : List Operand} {Ts : List TypeId} {k : List SV → RM α}, (argSVs env xs Ts k).run C st Kk = some res →
    ∃ svs : List SV, (k svs).run C st Kk = some res ∧ svs.length = xs.length ∧ ∀ (i : Nat) sv v, svs[i]? = some sv → (xs.map a.eval)[i]? = some v → svR F w st V none' v sv
  | [], Ts, k, h => ⟨[], h, rfl, fun i sv v hi => by simp at hi⟩
  | x :: xs, Ts, k, h => by
    simp only [argSVs, argSV] at h
    obtain ⟨sv, h1, hx⟩ := rdO_inv h
    have key : ∀ sv', (argSVs env xs Ts.tail fun l => k (sv' :: l)).run C st Kk = some res → svR F w st V none' (a.eval x) sv' → ∃ svs : List SV, (k svs).run C st Kk = some res ∧ svs.length = (x :: xs).length ∧ ∀ (i : Nat) sv v, svs[i]? = some sv → ((x :: xs).map a.eval)[i]? = some v → svR F w st V none' v sv := by
      intro sv' h2 hv
      obtain ⟨svs, k1, k2, k3⟩ := argSVs_inv hS hA h2
      refine ⟨sv' :: svs, k1, by simp [k2], fun i sv v hi hv' => ?_⟩
      cases i with
      | zero =>
        simp only [List.getElem?_cons_zero, Option.some.injEq, List.map_cons] at hi hv'
        subst hi; subst hv'; exact hv
      | succ i => exact k3 i sv v (by simpa using hi) (by simpa using hv')
    rcases hx with ⟨s, rfl, hs, rfl⟩ | ⟨c, rfl, rfl⟩ | ⟨f, rfl, rfl⟩
    · have hev : a.eval (.tmp s) = V (env.b + s) := hA.tmps s hs
      have hsv := hS.sv (env.b + s)
      cases hst : st (env.b + s) with
      | v t m y =>
        rw [hst] at h1 hsv
        have hlz : m ≠ .j → svR F w st V none' (a.eval (.tmp s)) (.lz (env.b + s) []) := by
          intro hm t0 m0 x0 h0
          rw [hst] at h0
          cases h0
          exact ⟨by simp [ownP], by simp [inP], _, _, _, by simp [rs]; exact ⟨rfl, rfl, rfl⟩, by rw [hev]; exact hsv.1 hm⟩
        cases m with
        | s => exact key _ h1 ⟨fun _ => by rw [hev]; exact hsv.1 nofun, by rw [hev]; exact rep_s hsv.2⟩
        | j => simp [RM.run] at h1
        | o m => exact key _ h1 (hlz nofun)
        | p m m' => exact key _ h1 (hlz nofun)
      | al r p => rw [hst] at h1 hsv; exact key _ h1 (by rw [hev]; exact hsv)
      | lz r p => rw [hst] at h1 hsv; exact key _ h1 (by rw [hev]; exact hsv)
      | sub r p lo hi => rw [hst] at h1 hsv; exact key _ h1 (by rw [hev]; exact hsv)
      | fn f s' c => rw [hst] at h1 hsv; exact key _ h1 (by rw [hev]; exact hsv)
      | ifc T t x => rw [hst] at h1 hsv; exact key _ h1 (by rw [hev]; exact hsv)
      | nil => rw [hst] at h1 hsv; exact key _ h1 (by rw [hev]; exact hsv)
      | bx r p => rw [hst] at h1; simp [RM.run] at h1
      | tup l => rw [hst] at h1; simp [RM.run] at h1
      | un => rw [hst] at h1; simp [RM.run] at h1
    · cases hc : cst env (Ts.headD 0) c with
      | v t m y =>
        obtain ⟨b1, b2, b3⟩ := cst_data (F := F) (w := w) hc
        rw [hc] at h1
        cases m with
        | j => exact absurd rfl b2
        | _ => exact key _ h1 ⟨fun _ => b1, b3⟩
      | nil =>
        rw [hc] at h1
        refine key _ h1 ?_
        unfold cst at hc
        (repeat' split at hc) <;> first | (cases hc; done) | rfl
      | un => rw [hc] at h1; simp [RM.run] at h1
      | _ => unfold cst at hc; (repeat' split at hc) <;> cases hc
    · exact key _ h1 ⟨[], [], rfl, ⟨rfl, fun k q hq => by simp at hq⟩, ⟨rfl, fun k q hq => by simp at hq⟩⟩

theorem caps_sv {caps : List (Nat × List PE)} {vs : List Value} (h : CapsOk F w st V caps vs) : ∀ (i : Nat) sv v, (alsOf caps)[i]? = some sv → vs[i]? = some v → svR F w st V none' v sv := by
  intro i sv v hi hv
  simp only [alsOf, List.getElem?_map, Option.map_eq_some_iff] at hi
  obtain ⟨q, hq, rfl⟩ := hi
  obtain ⟨u, h1, h2⟩ := h.2 i q hq
  rw [hv] at h1
  cases h1
  obtain ⟨r, p⟩ := q
  cases p with
  | nil => exact h2
  | cons e p => exact h2

theorem op_call {c : Call} {x : Operand} (hF : EnvFn P env) (hC : CxOk P env gh e C res Q) (ho : o.op = .call c) (hc : c.callee = .value x) (hS : SR e F w st V fp none') (hA : AR env gh a V) (hN : Nxt env gh e K res next) (h : (evOp env o).run C st K = some res) : o.wp P a w next Q := by
  simp only [evOp, ho, hc] at h
  obtain ⟨sv, h1, hx⟩ := rdO_inv h
  split at h1
  · rename_i f fst caps
    have hv : ∃ us vs : List Value, a.eval x = .func (.func f) us.toArray vs.toArray ∧ CapsOk F w st V fst us ∧ CapsOk F w st V caps vs := by
      rcases hx with ⟨s, rfl, hs, h3⟩ | ⟨c, rfl, h3⟩ | ⟨f', rfl, h3⟩
      · have hev : a.eval (.tmp s) = V (env.b + s) := hA.tmps s hs
        have hsv := hS.sv (env.b + s)
        rw [← h3] at hsv
        rw [hev]
        exact hsv
      · unfold cst at h3; (repeat' split at h3) <;> cases h3
      · cases h3; exact ⟨[], [], rfl, ⟨rfl, fun k q hq => by simp at hq⟩, ⟨rfl, fun k q hq => by simp at hq⟩⟩
    obtain ⟨us, vs, hv, hus, hvs⟩ := hv
    split at h1
    · -- it is looked into
      obtain ⟨svs, h2, l1, hsv⟩ := argSVs_inv hS hA h1
      simp only [RM.run] at h2
      obtain ⟨inl, hI, hCi⟩ := hC.inl
      rw [hCi] at h2
      obtain ⟨⟨fn, code, f1, f2, f3⟩, hcall⟩ := hI _ _ _ _ _ _ _ _ h2
      have hrun : (execOp a.eval o).run P w = .ok (.enter f (us ++ (c.args.toList.map a.eval ++ vs)).toArray) w := by
        have e1 : (us ++ (c.args.toList.map a.eval ++ vs)).toArray = (us.toArray ++ c.args.map a.eval) ++ vs.toArray := by apply Array.ext'; simp
        rw [e1]
        simp only [execOp, ho, resolve, hc, hv, Deferred.ofValue, Sem.run_bind, Sem.run_pure, Result.andThen_ok, invoke]
        exact Go.MuLone.run_callFunc_enter f1 f2 f3 _ _
      unfold Oper.wp
      rw [hrun]
      have la : us.length = (alsOf fst).length := by simp [alsOf, hus.1]
      have lb : vs.length = (alsOf caps).length := by simp [alsOf, hvs.1]
      have lc : (c.args.toList.map a.eval).length = svs.length := by simp [l1]
      refine hcall e F w V fp _ _ hS (by simp only [List.length_append]; omega) (fun k sv v hk hv' => ?_) (fun F' w' st' V' fp' fo v sv hS' hV' hr hK => ?_) (fun F' w' st' V' fp' p ch hS' hV' hp hK => ?_)
      · rcases Nat.lt_or_ge k us.length with hk1 | hk1
        · rw [List.getElem?_append_left (by omega)] at hk
          rw [List.getElem?_append_left hk1] at hv'
          exact caps_sv hus k sv v hk hv'
        · rw [List.getElem?_append_right (by omega), ← la] at hk
          rw [List.getElem?_append_right hk1] at hv'
          rcases Nat.lt_or_ge (k - us.length) svs.length with hk2 | hk2
          · rw [List.getElem?_append_left hk2] at hk
            rw [List.getElem?_append_left (by omega)] at hv'
            exact hsv _ sv v hk hv'
          · rw [List.getElem?_append_right hk2] at hk
            rw [List.getElem?_append_right (by omega), lc] at hv'
            exact caps_sv hvs _ sv v hk hv'
      · obtain ⟨st2, V2, fp2, F3, q1, q2, q3⟩ := fin_invS hS' (hA.congr hV') hK hr (fun b hb => hb)
        exact hN _ _ _ _ _ _ q2 q3 q1
      · exact hC.pan p ch _ _ _ _ _ _ hS' (hA.congr hV') hp hK
    · split at h1
      · obtain rfl : us = [] := List.eq_nil_of_length_eq_zero hus.1
        obtain rfl : vs = [] := List.eq_nil_of_length_eq_zero hvs.1
        unfold enter at h1
        obtain ⟨gs, h1⟩ := fnsOf_inv h1
        split at h1
        · simp [RM.run] at h1
        · rename_i cs hg
          have H := hF f gs cs hg
          obtain ⟨fn, code, f1, f2, f3⟩ := H.fn
          obtain ⟨rs, h1r, hal⟩ := refsOf_inv hA hS h1
          obtain ⟨al, h1r, halOk⟩ := saveAl_inv hS h1r
          obtain ⟨st', fp', fl', F', d, ms, bs, fps, k1, k2, k3, k4, k5, k6, k7, k8, k9⟩ := gather_inv hA hS h1r
          simp only [RM.run] at k1
          have hrun : (execOp a.eval o).run P w = .ok (.enter f (c.args.toList.map a.eval).toArray) w := by
            have e1 : (c.args.toList.map a.eval).toArray = c.args.map a.eval := by apply Array.ext'; simp
            rw [e1]
            simp only [execOp, ho, resolve, hc, hv, Deferred.ofValue, Sem.run_bind, Sem.run_pure, Result.andThen_ok, invoke, Array.append_empty, Array.empty_append]
            exact Go.MuLone.run_callFunc_enter f1 f2 f3 _ _
          have hcalls := H.calls (fun b => F' b ∨ ∃ r, r ∈ bs ∧ fp' r b) w d _ fps _ _ _ _ (fun b hb => by
              rcases hb with hb | ⟨r, _, hb⟩
              · exact k2.inF b hb
              · exact k2.inH r b hb) k5 (fun i b hb => ⟨fun hc => by
                rcases hc with hc | ⟨r, _, hc⟩
                · exact k2.flF b (k6 i b hb).1 hc
                · exact k2.flD r b hc (k6 i b hb).1, k2.flH b (k6 i b hb).1⟩) k9 k1
          unfold Oper.wp
          rw [hrun]
          refine Calls.mono hcalls fun e' w' hpost => ?_
          obtain ⟨rb, F2, fo, fb, hret, p2, p3, p4, ⟨pb1, pb2, pb3⟩, p6, p7⟩ := hpost
          have hW : SR e F' w' st' V fp' (fun b => fl' b ∨ (w.heap.size ≤ b ∧ b < w'.heap.size)) := by
            refine k2.world (fun b hb hnf => p4 b hb (fun i hi => hnf (k6 i b hi).1)) p3 (fun b hb => ?_)
            rcases hb with hb | hb
            · exact ⟨.inl hb, Nat.lt_of_lt_of_le (k2.flH b hb) p3.size⟩
            · exact ⟨.inr hb.1, hb.2⟩
          have hfo : ∀ b, (fo b ∨ ∃ i, fb i b) → fl' b ∨ (w.heap.size ≤ b ∧ b < w'.heap.size) := fun b hb => by
            obtain ⟨_, q2, q3⟩ := p6 b hb
            rcases q3 with ⟨i, q3⟩ | q3
            · exact .inl (k6 i b q3).1
            · exact .inr ⟨q3, q2⟩
          -- what is known behind the call, in one form
          have hmid : ∃ (F3 : Blks) (fl3 : Blks), SR e F3 w' st' V fp' fl3 ∧ BackR F3 w' cs.ins rb ((c.args.toList).map a.eval) fb ∧ (∀ i b, fb i b → fl3 b) ∧ (∀ b, fo b → fl3 b) ∧
              (∀ v ro, ResR F2 w' v fo (resS cs.outs ro) → ResR F3 w' v fo (resS cs.outs ro)) := by
            cases hcl : cs.clsd with
            | true =>
              have hcl2 := hcl
              unfold CSpec.clsd at hcl2
              simp only [Bool.and_eq_true] at hcl2
              exact ⟨F', _, hW, BackR.clsd (F' := F') hcl2.2 pb3, fun i b hb => hfo b (.inr ⟨i, hb⟩), fun b hb => hfo b (.inl hb), fun v ro hr => ResR.clsd (F' := F') hcl2.1 hr⟩
            | false =>
              have hbs := k8 hcl
              have hW2 : SR e F2 w' st' V fp' (fun b => fo b ∨ ∃ i, fb i b) := hW.moreF (fun b hb => p2 b (.inl hb)) (fun b hb => by
                  obtain ⟨q1, q2⟩ := p7 b hb
                  rcases q2 with (q2 | ⟨r, hr, _⟩) | ⟨i, q2⟩ | q2
                  · exact .inl q2
                  · rw [hbs] at hr; cases hr
                  · exact .inr (.inl (k6 i b q2).1)
                  · exact .inr (.inr ⟨q2, q1⟩)) hfo (fun b hb => (p6 b hb).1)
              exact ⟨F2, _, hW2, pb3, fun i b hb => .inr ⟨i, hb⟩, fun b hb => .inl hb, fun v ro hr => hr⟩
          obtain ⟨F3, fl3, m1, m2, m3, m4, m5⟩ := hmid
          rcases hret with ⟨v, ro, rfl, p1, p5⟩ | ⟨ch, pi, rfl, p1, p5⟩
          · obtain ⟨st1, fp1, q0, hW1⟩ := backs_inv m1 m2 hal pb1 m3 p1
            obtain ⟨st1', fp1', q0', hW1'⟩ := backAl_inv hW1 halOk q0
            obtain ⟨st2, V2, fp2, F4, q1, q2, q3⟩ := fin_invR hW1' hA q0' (m5 _ _ p5) (fun b hb => ⟨m4 b hb, fun i hc => pb2 i b hc hb⟩)
            exact hN _ _ _ _ _ _ q2 q3 q1
          · obtain ⟨st1, fp1, q0, hW1⟩ := backs_inv m1 m2 hal pb1 m3 p1
            obtain ⟨st1', fp1', q0', hW1'⟩ := backAl_inv hW1 halOk q0
            simp only [RM.run] at q0'
            obtain ⟨pv, hch, u, z1, z2, z3, z4⟩ := p5
            exact hC.pan _ _ _ _ _ _ _ _ (hW1'.less (fun _ hb => hb.elim)) hA ⟨pv, hch, u, z1, z2, z3, rep_any' z2 z4⟩ q0'
      · simp [RM.run] at h1
  · simp [RM.run] at h1

theorem wt_noif {t : Ty} {T : TypeId} (h : wt P t T = true) : ∃ d, P.underlying T = some d ∧ ∀ ms, d ≠ .interface ms := by
  cases hd : P.underlying T with
  | none => cases t <;> simp [wt, hd] at h
  | some d =>
    refine ⟨d, rfl, ?_⟩
    rintro ms rfl
    cases t <;> simp [wt, hd] at h

theorem op_makeInterface {T : TypeId} {x : Operand} (hE : EnvTy P env) (ho : o.op = .makeInterface T x) (hS : SR e F w st V fp none') (hA : AR env gh a V) (hN : Nxt env gh e K res next) (h : (evOp env o).run C st K = some res) : o.wp P a w next Q := by
  simp only [evOp, ho] at h
  obtain ⟨t, m, y, src, h1, hd, _⟩ := rdV_inv hS hA h
  obtain ⟨hv, hm, fq, hrep, _⟩ := hd.rep hS
  split at h1
  · rename_i hck
    simp only [Bool.and_eq_true] at hck
    obtain ⟨⟨k1, k2⟩, k3⟩ := hck
    have hm' : m = .s := by cases m <;> first | rfl | cases k3
    subst hm'
    refine wpp_wp (endOp (fq := none') (v := .iface T (a.eval x)) hS hA hN rfl h1 ⟨a.eval x, rfl, k1, hv, rep_s hrep⟩ (fun _ hb => hb) fun w' => ?_)
    obtain ⟨d, hu, hn⟩ := wt_noif (Env.is_ok hE k2)
    simp only [execOp, ho, Instr.makeInterface, Sem.run_bind, run_underlying hu, Result.andThen_ok]
    cases d <;> first | exact absurd rfl (hn _) | rfl
  · simp [RM.run] at h1

theorem op_panic {x : Operand} (hC : CxOk P env gh e C res Q) (ho : o.op = .panic x) (hS : SR e F w st V fp none') (hA : AR env gh a V) (h : (evOp env o).run C st K = some res) : o.wp P a w next Q := by
  simp only [evOp, ho] at h
  obtain ⟨sv, h1, hx⟩ := rdO_inv h
  split at h1
  · rename_i T t y
    simp only [RM.run] at h1
    have hv : IfcOk F w T t y (a.eval x) := by
      rcases hx with ⟨s, rfl, hs, h3⟩ | ⟨c, rfl, h3⟩ | ⟨f', rfl, h3⟩
      · have hev : a.eval (.tmp s) = V (env.b + s) := hA.tmps s hs
        have hsv := hS.sv (env.b + s)
        rw [← h3] at hsv
        rw [hev]
        exact hsv
      · unfold cst at h3; (repeat' split at h3) <;> cases h3
      · cases h3
    have hp := hC.pan ⟨T, t, y⟩ [{ v := a.eval x, recovered := false }] _ _ _ _ _ _ hS hA ⟨_, rfl, hv⟩ h1
    obtain ⟨u, hu, _⟩ := hv
    have hrun : (execOp a.eval o).run P w = .halt (.panic (a.eval x)) w := by
      simp only [execOp, ho, Instr.panic, hu, goPanic, Sem.run_bind, Sem.run]
      rfl
    unfold Oper.wp
    rw [hrun]
    exact hp
  · simp [RM.run] at h1

theorem evOp_pure (hE : EnvTy P env) (hp : isPure o.op = true) (hS : SR e F w st V fp none') (hA : AR env gh a V) (hN : Nxt env gh e K res next) (h : (evOp env o).run C st K = some res) : wpp P o a w next := by
  have hfail : ∀ {p : Op}, o.op = p → (RM.fail : RM Unit).run C st K = some res → wpp P o a w next := fun _ h => by simp [RM.run] at h
  cases ho : o.op with
  | move x => exact op_move ho hS hA hN h
  | assign x => exact op_assign ho hS hA hN h
  | pick c x y => exact op_pick ho hS hA hN h
  | build T ps => exact op_build hE ho hS hA hN h
  | nilCheck x => exact op_nilCheck ho hS hA hN h
  | binOp op T x y U => exact op_binOp hE ho hS hA hN h
  | unOp op T x => exact op_unOp ho hS hA hN h
  | makeFunc fn first caps =>
    cases fn with
    | func f => exact op_makeFunc ho hS hA hN h
    | _ => simp only [evOp, ho] at h; exact hfail ho h
  | slice T x lo hi mx =>
    cases mx with
    | none => exact op_slice hE ho hS hA hN h
    | some _ => simp only [evOp, ho] at h; exact hfail ho h
  | fieldAddr S x i => exact op_fieldAddr hE ho hS hA hN h
  | field T x i => exact op_field hE ho hS hA hN h
  | indexAddr T x i => exact op_indexAddr hE ho hS hA hN h
  | index T x i => exact op_index hE ho hS hA hN h
  | extract x i => exact op_extract ho hS hA hN h
  | call c =>
    rw [ho] at hp
    cases hc : c.callee with
    | builtin b =>
      simp only [isPure, hc] at hp
      simp only [evOp, ho, hc] at h
      generalize hxs : c.args.toList = xs at h
      generalize hTs : c.argTypes.toList = Ts at h
      have h0 := h
      unfold evB at h
      split at h
      · exact op_len hE ho hc hxs hTs hS hA hN h0
      · exact op_min ho hc hxs hS hA hN (by rw [hTs]; exact h0)
      · exact op_max ho hc hxs hS hA hN (by rw [hTs]; exact h0)
      · simp at hp
      · simp at hp
      · exact hfail ho h
    | _ => simp only [isPure, hc] at hp; cases hp
  | _ => rw [ho] at hp; cases hp

/-- EVERY OPERATION -/
theorem evOp_sound (hE : EnvTy P env) (hF : EnvFn P env) (hC : CxOk P env gh e C res Q) (hS : SR e F w st V fp none') (hA : AR env gh a V) (hN : Nxt env gh e K res next) (h : (evOp env o).run C st K = some res) : o.wp P a w next Q := by
  have hfail : ∀ {p : Op}, o.op = p → (RM.fail : RM Unit).run C st K = some res → o.wp P a w next Q := fun _ h => by simp [RM.run] at h
  cases ho : o.op with
  | move x => exact wpp_wp (op_move ho hS hA hN h)
  | assign x => exact wpp_wp (op_assign ho hS hA hN h)
  | pick c x y => exact wpp_wp (op_pick ho hS hA hN h)
  | alloc T => exact op_alloc hE ho hS hA hN h
  | box T x => exact op_box hE ho hS hA hN h
  | build T ps => exact wpp_wp (op_build hE ho hS hA hN h)
  | buildSlice T n ps => exact op_buildSlice hE ho hS hA hN h
  | load T x => exact wpw_wp (op_load hE ho hS hA hN h)
  | store T x y => exact op_store hE ho hS hA hN h
  | nilCheck x => exact wpp_wp (op_nilCheck ho hS hA hN h)
  | binOp op T x y U => exact wpp_wp (op_binOp hE ho hS hA hN h)
  | unOp op T x => exact wpp_wp (op_unOp ho hS hA hN h)
  | convert S T x => exact op_convert hE ho hS hA hN h
  | makeFunc fn first caps =>
    cases fn with
    | func f => exact wpp_wp (op_makeFunc ho hS hA hN h)
    | _ => simp only [evOp, ho] at h; exact hfail ho h
  | makeInterface T x => exact op_makeInterface hE ho hS hA hN h
  | panic x => exact op_panic hC ho hS hA h
  | makeSlice T n c => exact op_makeSlice hE ho hS hA hN h
  | slice T x lo hi mx =>
    cases mx with
    | none => exact wpp_wp (op_slice hE ho hS hA hN h)
    | some _ => simp only [evOp, ho] at h; exact hfail ho h
  | fieldAddr S x i => exact wpp_wp (op_fieldAddr hE ho hS hA hN h)
  | field T x i => exact wpp_wp (op_field hE ho hS hA hN h)
  | indexAddr T x i => exact wpp_wp (op_indexAddr hE ho hS hA hN h)
  | index T x i => exact wpp_wp (op_index hE ho hS hA hN h)
  | extract x i => exact wpp_wp (op_extract ho hS hA hN h)
  | call c =>
    cases hc : c.callee with
    | value x => exact op_call hF hC ho hc hS hA hN h
    | builtin b =>
      simp only [evOp, ho, hc] at h
      generalize hxs : c.args.toList = xs at h
      generalize hTs : c.argTypes.toList = Ts at h
      have h0 := h
      unfold evB at h
      split at h
      · exact wpp_wp (op_len hE ho hc hxs hTs hS hA hN h0)
      · exact wpp_wp (op_min ho hc hxs hS hA hN (by rw [hTs]; exact h0))
      · exact wpp_wp (op_max ho hc hxs hS hA hN (by rw [hTs]; exact h0))
      · exact op_append hE ho hc hxs hTs hS hA hN h0
      · exact op_clear hE ho hc hxs hTs hS hA hN h0
      · exact hfail ho h
    | _ => simp only [evOp, ho, hc] at h; exact hfail ho h
  | _ => simp only [evOp, ho] at h; exact hfail ho h

end
end Go.Trm
