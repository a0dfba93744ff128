import Derived.Test.YtiooemenojlbjaaGreatTrmOps14
import Derived.Conc.MuLone
set_option linter.unusedVariables false
set_option linter.unusedSimpArgs false
namespace Go.Trm

/-- the arguments -/
def ArgsR (F : Blks) (w : World) : (ks : List PK) → DI ks → List Value → (Nat → Blks) → Prop
  | [], _, vs, _ => vs = []
  | .val t m :: ks, d, vs, fps => ∃ v vs', vs = v :: vs' ∧ isV t v ∧ m ≠ .j ∧ rep F w t m d.1 (cv v) (fps 0) ∧ ArgsR F w ks d.2 vs' (fun i => fps (i + 1))
  | .fn f :: ks, d, vs, fps => ∃ v vs', vs = v :: vs' ∧ v = .func (.func f) #[] #[] ∧ ArgsR F w ks d.2 vs' (fun i => fps (i + 1))
  | .ref t m _ :: ks, d, vs, fps => ∃ v vs', vs = v :: vs' ∧ isV (.ptr 0 t) v ∧ rep F w (.ptr 0 t) (.o m) (some d.1) (cv v) (fps 0) ∧ ArgsR F w ks d.2 vs' (fun i => fps (i + 1))

/-- the results -/
def ResR (F : Blks) (w : World) (v : Value) (fo : Blks) (sv : SV) : Prop := svR F w (fun _ => .un) (fun _ => undef) fo v sv

/-- what the pointers that were handed over point to -/
def BackR (F : Blks) (w : World) : (ks : List PK) → DB ks → List Value → (Nat → Blks) → Prop
  | .ref t _ m' :: ks, b, v :: vs, fs => isV (.ptr 0 t) v ∧ rep F w (.ptr 0 t) (.o m') (some b.1) (cv v) (fs 0) ∧ BackR F w ks b.2 vs (fun i => fs (i + 1))
  | .val _ _ :: ks, b, _ :: vs, fs => BackR F w ks b vs (fun i => fs (i + 1))
  | .fn _ :: ks, b, _ :: vs, fs => BackR F w ks b vs (fun i => fs (i + 1))
  | _, _, _, _ => True

/-- what a panic bears -/
def PanR (F : Blks) (w : World) (p : PanV) (chain : List PanicEntry) : Prop := ∃ v, chain = [{ v, recovered := false }] ∧ IfcOk F w p.T p.t p.x v

theorem PanR.mono {F F' : Blks} {w : World} {p : PanV} {ch : List PanicEntry} (h : PanR F w p ch) (hF : ∀ b, F b → F' b) : PanR F' w p ch := by
  obtain ⟨v, h1, u, e1, e2, e3, e4⟩ := h
  exact ⟨v, h1, u, e1, e2, e3, rep_frame hF (fun _ _ => rfl) (fun _ hb => hb.elim) e4⟩

/-- WHAT IS KNOWN OF A FUNCTION -/
structure Holds (P : Program) (f : FuncId) (c : CSpec) : Prop where
  fn : ∃ fn code, P.funcs[f]? = some fn ∧ (fn.name == "runtime.NumGoroutine") = false ∧ fn.body = some code
  calls : ∀ (F : Blks) (w : World) (d : DI c.ins) (vs : List Value) (fps : Nat → Blks) (R : Type) (K : DR c.outs → DB c.ins → Option R) (Kp : PI c.pan → DB c.ins → Option R) (res : R),
    (∀ b, F b → b < w.heap.size) → Disj fps → (∀ i b, fps i b → ¬ F b ∧ b < w.heap.size) → ArgsR F w c.ins d vs fps → c.fn d K Kp = some res →
    Calls P f vs.toArray w fun e w' => ∃ rb, ∃ F' fo : Blks, ∃ fb : Nat → Blks, ((∃ v ro, e = .returned v ∧ K ro rb = some res ∧ ResR F' w' v fo (resS c.outs ro)) ∨ (∃ ch pi, e = .panicked ch ∧ Kp pi rb = some res ∧ PanR F' w' (PI.pan c.pan pi) ch)) ∧ (∀ b, F b → F' b) ∧ Grew w w' ∧ (∀ b, b < w.heap.size → (∀ i, ¬ fps i b) → Same w w' b) ∧
      (Disj fb ∧ (∀ i b, fb i b → ¬ fo b) ∧ BackR F' w' c.ins rb vs fb) ∧ (∀ b, (fo b ∨ ∃ i, fb i b) → ¬ F' b ∧ b < w'.heap.size ∧ ((∃ i, fps i b) ∨ w.heap.size ≤ b)) ∧ (∀ b, F' b → b < w'.heap.size ∧ (F b ∨ (∃ i, fps i b) ∨ w.heap.size ≤ b))

def EnvFn (P : Program) (env : Env) : Prop := ∀ f gs c, env.gam f gs = some c → Holds P f c

theorem ArgsR.mono {F F' : Blks} {w : World} (hF : ∀ b, F b → F' b) : ∀ {ks : List PK} {d : DI ks} {vs : List Value} {fps : Nat → Blks}, ArgsR F w ks d vs fps → ArgsR F' w ks d vs fps
  | [], _, _, _, h => h
  | .val _ _ :: _, _, _, _, ⟨v, vs', h1, h2, h3, h4, h5⟩ => ⟨v, vs', h1, h2, h3, rep_frame hF (fun _ _ => rfl) (fun _ _ => rfl) h4, h5.mono hF⟩
  | .fn _ :: _, _, _, _, ⟨v, vs', h1, h2, h5⟩ => ⟨v, vs', h1, h2, h5.mono hF⟩
  | .ref _ _ _ :: _, _, _, _, ⟨v, vs', h1, h2, h4, h5⟩ => ⟨v, vs', h1, h2, rep_frame hF (fun _ _ => rfl) (fun _ _ => rfl) h4, h5.mono hF⟩

section
variable {P : Program} {env : Env} {e : Entry} {F : Blks} {w : World} {st : St} {V : Nat → Value} {fp : Nat → Blks} {fl : Blks} {a : Act} {o : Oper} {R : Type} {K : Unit → St → Option R} {res : R} {C : Cx R} {gh : Nat → Value} {next : Act → World → Prop} {Q : Exit → Act → World → Prop}

/-- closed data needs no frozen blocks -/
theorem rep_clsd {F F' : Blks} {w : World} : ∀ {t : Ty} {m : Md} {x : t.I} {c : Cells} {fq : Blks}, clsd t m = true → rep F w t m x c fq → rep F' w t m x c fq := by
  intro t
  induction t with
  | sl e t ih =>
    intro m x c fq h hr
    cases m with
    | o m =>
      simp only [clsd] at h
      simp only [rep] at hr ⊢
      obtain ⟨A, cap, q1, q2, q3, q4, q5⟩ := hr
      refine ⟨A, cap, q1, q2, q3, q4, fun a ha => ?_⟩
      obtain ⟨p1, p2, p3, fs, p4, p5, p6⟩ := q5 a ha
      exact ⟨p1, p2, p3, fs, p4, p5, fun i hi => ih h (p6 i hi)⟩
    | _ => cases h
  | ptr e t ih =>
    intro m x c fq h hr
    cases m with
    | o m =>
      simp only [clsd] at h
      simp only [rep] at hr ⊢
      obtain ⟨A, q1, q2⟩ := hr
      refine ⟨A, q1, ?_⟩
      cases x with
      | none => exact q2
      | some y =>
        obtain ⟨a, ha, p1, p2, p3, f, p4, p5⟩ := q2
        exact ⟨a, ha, p1, p2, p3, f, p4, ih h p5⟩
    | _ => cases h
  | pair a b iha ihb =>
    intro m x c fq h hr
    simp only [clsd, Bool.and_eq_true] at h
    obtain ⟨fa, fb, h1, h2, h3, ra, rb⟩ := rep_pair hr
    have : ∃ fa fb : Blks, (∀ i, fa i → fq i) ∧ (∀ i, fb i → fq i) ∧ (∀ i, fa i → ¬ fb i) ∧ rep F' w a m.fst x.1 c fa ∧ rep F' w b m.snd x.2 (fun j => c (a.size + j)) fb := ⟨fa, fb, h1, h2, h3, iha h.1 ra, ihb h.2 rb⟩
    cases m with
    | j => exact rep_j
    | _ => simpa only [rep] using this
  | arr n t ih =>
    intro m x c fq h hr
    simp only [clsd] at h
    cases m with
    | j => exact rep_j
    | _ =>
      simp only [rep] at hr ⊢
      obtain ⟨hn, fs, h1, h2, r⟩ := hr
      exact ⟨hn, fs, h1, h2, fun i hi => ih h (r i hi)⟩
  | _ => intro m x c fq h hr; cases m <;> simp only [rep] at hr ⊢ <;> exact hr

theorem refOf_inv {α : Type} {Kk : α → St → Option R} (hA : AR env gh a V) {x : Operand} {k : Nat → TypeId → RM α} (hS : SR e F w st V fp fl) (h : (refOf env x k).run C st Kk = some res) :
    ∃ r T t m y, (k r T).run C st Kk = some res ∧ st r = .v (.ptr T t) m y ∧ a.eval x = V r := by
  unfold refOf at h
  obtain ⟨sv, h1, hx⟩ := rdO_inv h
  split at h1
  · rename_i r p
    rcases hx with ⟨s, rfl, hs, h3⟩ | ⟨c, rfl, h3⟩ | ⟨f', rfl, h3⟩
    · have hev : a.eval (.tmp s) = V (env.b + s) := hA.tmps s hs
      have hsv := hS.sv (env.b + s)
      rw [← h3] at hsv
      split at h1
      · simp only [RM.run] at h1
        split at h1
        · rename_i T t m y hst
          refine ⟨r, T, t, m, y, h1, hst, ?_⟩
          obtain ⟨_, o1, o2, u, c', b, k0, o3, o4⟩ := hsv _ _ _ hst
          cases m with
          | o m =>
            cases y with
            | none => simp [inP] at o2
            | some y =>
              obtain ⟨_, _, _, u2, c2, b2, k2, q3, q4⟩ := al_der hS hst _ _ _ hst
              rw [o3] at q3
              cases q3
              rw [hev, o4, q4]
          | _ => simp [ownP] at o1
        · simp [RM.run] at h1
      · simp [RM.run] at h1
    · unfold cst at h3; (repeat' split at h3) <;> cases h3
    · cases h3
  · rename_i T t m y
    cases hself : self env x with
    | none => rw [hself] at h1; simp [RM.run] at h1
    | some s =>
      rw [hself] at h1
      rcases hx with ⟨s', rfl, hs, h3⟩ | ⟨c, rfl, h3⟩ | ⟨f', rfl, h3⟩
      · cases hself
        exact ⟨_, T, t, _, y, h1, h3.symm, hA.tmps _ hs⟩
      · cases hself
      · cases hself
  · rename_i r p
    rcases hx with ⟨s, rfl, hs, h3⟩ | ⟨c, rfl, h3⟩ | ⟨f', rfl, h3⟩
    · have hev : a.eval (.tmp s) = V (env.b + s) := hA.tmps s hs
      have hsv := hS.sv (env.b + s)
      rw [← h3] at hsv
      split at h1
      · simp only [RM.run] at h1
        split at h1
        · rename_i T t m y hst
          refine ⟨r, T, t, _, y, h1, hst, ?_⟩
          obtain ⟨_, _, u, c', ad, o3, o4⟩ := hsv _ _ _ hst
          simp only [rs, Option.some.injEq, Prod.mk.injEq] at o3
          obtain ⟨rfl, rfl, _⟩ := o3
          have hrv := hS.sv r
          rw [hst] at hrv
          rw [hev, o4]
          exact (hrv.1 nofun).symm
        · simp [RM.run] at h1
      · simp [RM.run] at h1
    · unfold cst at h3; (repeat' split at h3) <;> cases h3
    · cases h3
  · simp [RM.run] at h1

theorem refsOf_inv {α : Type} {Kk : α → St → Option R} (hA : AR env gh a V) (hS : SR e F w st V fp fl) : ∀ {ks : List PK} {xs : List Operand} {k : List (Option (Nat × TypeId)) → RM α}, (refsOf env ks xs k).run C st Kk = some res →
    ∃ rs : List (Option (Nat × TypeId)), (k rs).run C st Kk = some res ∧ ∀ (i r : Nat) (T : TypeId), rs[i]? = some (some (r, T)) → (xs.map a.eval)[i]? = some (V r)
  | [], xs, k, h => ⟨[], h, fun i r T hi => by simp at hi⟩
  | .val _ _ :: ks, [], k, h => by simp [refsOf, RM.run] at h
  | .fn _ :: ks, [], k, h => by simp [refsOf, RM.run] at h
  | .ref _ _ _ :: ks, [], k, h => by simp [refsOf, RM.run] at h
  | .val _ _ :: ks, x :: xs, k, h => by
    obtain ⟨rs, h1, h2⟩ := refsOf_inv hA hS (ks := ks) h
    refine ⟨_, h1, fun i r T hi => ?_⟩
    cases i with
    | zero => simp at hi
    | succ i => simpa using h2 i r T (by simpa using hi)
  | .fn _ :: ks, x :: xs, k, h => by
    obtain ⟨rs, h1, h2⟩ := refsOf_inv hA hS (ks := ks) h
    refine ⟨_, h1, fun i r T hi => ?_⟩
    cases i with
    | zero => simp at hi
    | succ i => simpa using h2 i r T (by simpa using hi)
  | .ref _ _ _ :: ks, x :: xs, k, h => by
    simp only [refsOf] at h
    obtain ⟨r0, T0, t0, m0, y0, h1, _, hev⟩ := refOf_inv hA hS h
    obtain ⟨rs, h1, h2⟩ := refsOf_inv hA hS (ks := ks) h1
    refine ⟨_, h1, fun i r T hi => ?_⟩
    cases i with
    | zero =>
      simp only [List.getElem?_cons_zero, Option.some.injEq, Prod.mk.injEq] at hi
      obtain ⟨rfl, rfl⟩ := hi
      simpa using hev
    | succ i => simpa using h2 i r T (by simpa using hi)

theorem isV_ptr0 {T T' : TypeId} {t : Ty} {v : Value} (h : isV (.ptr T t) v) : isV (.ptr T' t) v := h
theorem rep_ptr0 {T T' : TypeId} {t : Ty} {m : Md} {x : Option t.I} {c : Cells} {fq : Blks} (h : rep F w (.ptr T t) m x c fq) : rep F w (.ptr T' t) m x c fq := by
  cases m <;> simp only [rep] at h ⊢ <;> exact h

theorem backR_nil {ks : List PK} {b : DB ks} {fs : Nat → Blks} : BackR F w ks b [] fs := by
  cases ks with
  | nil => trivial
  | cons k ks => cases k <;> simp [BackR]

/-- what pointers point to is put back -/
theorem backs_inv {α : Type} {Kk : α → St → Option R} : ∀ {ks : List PK} {b : DB ks} {rs : List (Option (Nat × TypeId))} {vs : List Value} {fb : Nat → Blks} {k : RM α} {st : St} {fp : Nat → Blks} {fl : Blks},
    SR e F w st V fp fl → BackR F w ks b vs fb → (∀ (i r : Nat) (T : TypeId), rs[i]? = some (some (r, T)) → vs[i]? = some (V r)) → Disj fb → (∀ i b, fb i b → fl b) → (backs ks b rs k).run C st Kk = some res →
    ∃ st' fp', k.run C st' Kk = some res ∧ SR e F w st' V fp' (fun b => fl b ∧ ∀ i, ¬ fb i b)
  | [], _, _, _, fb, _, st, fp, fl, hS, _, _, _, _, h => ⟨st, fp, h, hS.less fun b hb => hb.1⟩
  | .val _ _ :: ks, b, [], _, _, _, _, _, _, hS, _, _, _, _, h => by simp [backs, RM.run] at h
  | .fn _ :: ks, b, [], _, _, _, _, _, _, hS, _, _, _, _, h => by simp [backs, RM.run] at h
  | .ref _ _ _ :: ks, b, [], _, _, _, _, _, _, hS, _, _, _, _, h => by simp [backs, RM.run] at h
  | .ref _ _ _ :: ks, b, none :: rs, _, _, _, _, _, _, hS, _, _, _, _, h => by simp [backs, RM.run] at h
  | .val _ _ :: ks, b, r0 :: rs, vs, fb, k, st, fp, fl, hS, hB, hr, hd, hq, h => by
    have hB' : BackR F w ks b vs.tail (fun i => fb (i + 1)) := by
      cases vs with
      | nil => exact backR_nil
      | cons v vs => exact hB
    obtain ⟨st', fp', h1, h2⟩ := backs_inv (ks := ks) (vs := vs.tail) hS hB' (fun i r T hi => by
        have := hr (i + 1) r T (by simpa using hi)
        cases vs with
        | nil => simp at this
        | cons v vs => simpa using this) ⟨fun i j hij b hb hb' => hd.disj (i + 1) (j + 1) (by omega) b hb hb'⟩ (fun i b hb => hq (i + 1) b hb) h
    exact ⟨st', fp', h1, h2.less fun b hb => ⟨hb.1, fun i => hb.2 (i + 1)⟩⟩
  | .fn _ :: ks, b, r0 :: rs, vs, fb, k, st, fp, fl, hS, hB, hr, hd, hq, h => by
    have hB' : BackR F w ks b vs.tail (fun i => fb (i + 1)) := by
      cases vs with
      | nil => exact backR_nil
      | cons v vs => exact hB
    obtain ⟨st', fp', h1, h2⟩ := backs_inv (ks := ks) (vs := vs.tail) hS hB' (fun i r T hi => by
        have := hr (i + 1) r T (by simpa using hi)
        cases vs with
        | nil => simp at this
        | cons v vs => simpa using this) ⟨fun i j hij b hb hb' => hd.disj (i + 1) (j + 1) (by omega) b hb hb'⟩ (fun i b hb => hq (i + 1) b hb) h
    exact ⟨st', fp', h1, h2.less fun b hb => ⟨hb.1, fun i => hb.2 (i + 1)⟩⟩
  | .ref t m m' :: ks, b, some (r0, T0) :: rs, vs, fb, k, st, fp, fl, hS, hB, hr, hd, hq, h => by
    have h0 := hr 0 r0 T0 rfl
    cases vs with
    | nil => simp at h0
    | cons v vs =>
      simp only [List.getElem?_cons_zero, Option.some.injEq] at h0
      subst h0
      obtain ⟨b1, b2, b3⟩ := hB
      simp only [backs, setS, RM.run] at h
      have hS1 := hS.fillV (d := r0) (v := V r0) (fq := fb 0) (fl' := fun b => fl b ∧ ¬ fb 0 b) (fun _ => rfl) (fun _ => isV_ptr0 (T' := T0) b1) (rep_ptr0 b2) (fun b hb => hq 0 b hb) (fun b hb => hb)
      rw [updV_self] at hS1
      obtain ⟨st', fp', h1, h2⟩ := backs_inv (ks := ks) (vs := vs) hS1 b3 (fun i r T hi => by
          have := hr (i + 1) r T (by simpa using hi)
          simpa using this) ⟨fun i j hij b hb hb' => hd.disj (i + 1) (j + 1) (by omega) b hb hb'⟩ (fun i b hb => ⟨hq (i + 1) b hb, fun hc => hd.disj (i + 1) 0 (by omega) b hb hc⟩) h
      exact ⟨st', fp', h1, h2.less fun b hb => ⟨⟨hb.1, hb.2 0⟩, fun i => hb.2 (i + 1)⟩⟩

theorem gather_inv {α : Type} {Kk : α → St → Option R} {cl : Bool} (hA : AR env gh a V) : ∀ {ks : List PK} {xs : List Operand} {Ts : List TypeId} {k : DI ks → List Nat → List Nat → RM α} {st : St} {fp : Nat → Blks} {fl F : Blks},
    SR e F w st V fp fl → (gather env cl ks xs Ts k).run C st Kk = some res →
    ∃ st' fp', ∃ fl' F' : Blks, ∃ d ms bs, ∃ fps : Nat → Blks, (k d ms bs).run C st' Kk = some res ∧ SR e F' w st' V fp' fl' ∧ (∀ b, F b → F' b) ∧ (∀ b, fl b → fl' b) ∧ Disj fps ∧ (∀ i b, fps i b → fl' b ∧ ¬ fl b) ∧
      (cl = true → ∀ r, r ∉ ms → ∀ t m x, st' r = .v t m x ↔ st r = .v t m x) ∧ (cl = false → bs = []) ∧ ArgsR (fun b => F' b ∨ ∃ r, r ∈ bs ∧ fp' r b) w ks d (xs.map a.eval) fps
  | [], [], Ts, k, st, fp, fl, F, hS, h => ⟨st, fp, fl, F, (), [], [], fun _ => none', h, hS, fun _ hb => hb, fun _ hb => hb, ⟨fun _ _ _ _ hb => hb.elim⟩, fun _ _ hb => hb.elim, fun _ _ _ _ _ _ => Iff.rfl, fun _ => rfl, rfl⟩
  | [], x :: xs, Ts, k, st, fp, fl, F, hS, h => by simp [gather, RM.run] at h
  | .val t m :: ks, [], Ts, k, st, fp, fl, F, hS, h => by simp [gather, RM.run] at h
  | .fn f :: ks, [], Ts, k, st, fp, fl, F, hS, h => by simp [gather, RM.run] at h
  | .ref _ _ _ :: ks, [], Ts, k, st, fp, fl, F, hS, h => by simp [gather, RM.run] at h
  | .ref t m mb :: ks, x :: xs, Ts, k, st, fp, fl, F, hS, h => by
    simp only [gather] at h
    obtain ⟨r, T, t0, m0, y0, h1, hst, hev⟩ := refOf_inv hA hS h
    simp only [RM.run, hst] at h1
    cases y0 with
    | none => simp [RM.run] at h1
    | some c =>
      simp only at h1
      split at h1
      · rename_i c' hc he
        obtain ⟨eu, hy'⟩ := castI_some hc
        subst eu
        simp only at hy'
        subst hy'
        have hm0 : m0 ≠ .j := fun hc => by subst hc; cases he
        have hdx : DataX F w st V (a.eval x) (.ptr T t0) m0 (some c) (some (r, [])) := by
          refine ⟨hm0, _, _, _, hst, rfl, by simp [ownP], by simp [inP], cv (V r), none, by simp [rs], ?_⟩
          have hsv := hS.sv r
          rw [hst] at hsv
          rw [hev]
          exact hsv.1 hm0
        obtain ⟨st1, fp1, fq, F1, h2, hS1, hF1, hv1, hm1, hrep1, hfl, hiff⟩ := take_melt (m' := .o m) hS hdx.at he h1
        obtain ⟨st', fp', fl', F', d, ms, bs, fps, k1, k2, k3, k4, k5, k6, k7, k8, k9⟩ := gather_inv hA hS1 h2
        have hrep2 : rep F1 w (.ptr 0 t0) (.o m) (some c) (cv (a.eval x)) fq := rep_ptr0 hrep1
        refine ⟨st', fp', fl', F', (c, d), r :: ms, bs, fun i => match i with | 0 => fq | i + 1 => fps i, k1, k2, fun b hb => k3 b (hF1 b hb), fun b hb => k4 b (.inl hb), ⟨fun i j hij b hb hb' => ?_⟩, fun i b hb => ?_, fun hcl r' hr' t1 m1 x1 => ?_, k8, ⟨_, _, rfl, isV_ptr0 hv1, rep_frame (fun b hb => .inl (k3 b hb)) (fun _ _ => rfl) (fun _ _ => rfl) hrep2, k9⟩⟩
        · cases i <;> cases j
          · exact hij rfl
          · exact (k6 _ b hb').2 (.inr hb)
          · exact (k6 _ b hb).2 (.inr hb')
          · exact k5.disj _ _ (by omega) b hb hb'
        · cases i
          · exact ⟨k4 b (.inr hb), hfl b hb⟩
          · exact ⟨(k6 _ b hb).1, fun hc => (k6 _ b hb).2 (.inl hc)⟩
        · rw [k7 hcl r' (fun hc => hr' (List.mem_cons_of_mem _ hc))]
          exact hiff r' (.inr ⟨r, [], rfl, fun hc => hr' (hc ▸ List.mem_cons_self)⟩) _ _ _
      · simp [RM.run] at h1
  | .fn f :: ks, x :: xs, Ts, k, st, fp, fl, F, hS, h => by
    simp only [gather] at h
    obtain ⟨sv, h1, hx⟩ := rdO_inv h
    split at h1
    · rename_i g
      split at h1
      · rename_i hg
        have := Nat.eq_of_beq_eq_true hg
        subst this
        have hv : a.eval x = .func (.func f) #[] #[] := by
          rcases hx with ⟨s, rfl, hs, h3⟩ | ⟨c, rfl, h3⟩ | ⟨f', rfl, h3⟩
          · have hev : a.eval (.tmp s) = V (env.b + s) := hA.tmps s hs
            have hsv := hS.sv (env.b + s)
            rw [← h3] at hsv
            obtain ⟨us, vs, e1, e2, e3⟩ := hsv
            rw [hev, e1, List.eq_nil_of_length_eq_zero e2.1, List.eq_nil_of_length_eq_zero e3.1]
          · unfold cst at h3; (repeat' split at h3) <;> cases h3
          · cases h3; rfl
        obtain ⟨st', fp', fl', F', d, ms, bs, fps, k1, k2, k3, k4, k5, k6, k7, k8, k9⟩ := gather_inv hA hS h1
        refine ⟨st', fp', fl', F', ((), d), ms, bs, fun i => match i with | 0 => none' | i + 1 => fps i, k1, k2, k3, k4, ⟨fun i j hij b hb hb' => ?_⟩, fun i b hb => ?_, k7, k8, ⟨_, _, rfl, hv, k9⟩⟩
        · cases i <;> cases j <;> first | exact hb.elim | exact hb'.elim | exact k5.disj _ _ (by omega) b hb hb'
        · cases i <;> first | exact hb.elim | exact k6 _ b hb
      · simp [RM.run] at h1
    · simp [RM.run] at h1
  | .val t m :: ks, x :: xs, Ts, k, st, fp, fl, F, hS, h => by
    simp only [gather] at h
    obtain ⟨u, mu, y, src, h1, hd, _⟩ := rdV_inv hS hA h
    split at h1
    · simp [RM.run] at h1
    · rename_i y' hc
      obtain ⟨eu, hy⟩ := castI_some hc
      subst eu
      simp only at hy
      subst hy
      obtain ⟨hv, hmu, fq0, hrep, hfq⟩ := hd.rep hS
      split at h1
      · split at h1
        · obtain ⟨st', fp', fl', F', d, ms, bs, fps, k1, k2, k3, k4, k5, k6, k7, k8, k9⟩ := gather_inv hA hS h1
          refine ⟨st', fp', fl', F', (y, d), ms, bs, fun i => match i with | 0 => none' | i + 1 => fps i, k1, k2, k3, k4, ⟨fun i j hij b hb hb' => ?_⟩, fun i b hb => ?_, k7, k8, ⟨_, _, rfl, hv, nofun, rep_s (rep_frame (fun b hb => .inl (k3 b hb)) (fun _ _ => rfl) (fun _ _ => rfl) hrep), k9⟩⟩
          · cases i <;> cases j <;> first | exact hb.elim | exact hb'.elim | exact k5.disj _ _ (by omega) b hb hb'
          · cases i <;> first | exact hb.elim | exact k6 _ b hb
        · split at h1
          · rename_i k _ _ _ hnj
            have hnone : src = none → (gather env cl ks xs Ts.tail fun d ms bs => k (y, d) ms bs).run C st Kk = some res → ∃ st' fp', ∃ fl' F' : Blks, ∃ d ms bs, ∃ fps : Nat → Blks, (k d ms bs).run C st' Kk = some res ∧ SR e F' w st' V fp' fl' ∧ (∀ b, F b → F' b) ∧ (∀ b, fl b → fl' b) ∧ Disj fps ∧ (∀ i b, fps i b → fl' b ∧ ¬ fl b) ∧
                (cl = true → ∀ r, r ∉ ms → ∀ t m x, st' r = .v t m x ↔ st r = .v t m x) ∧ (cl = false → bs = []) ∧ ArgsR (fun b => F' b ∨ ∃ r, r ∈ bs ∧ fp' r b) w (.val u .s :: ks) d ((x :: xs).map a.eval) fps := by
              rintro rfl h1
              obtain ⟨st', fp', fl', F', d, ms, bs, fps, k1, k2, k3, k4, k5, k6, k7, k8, k9⟩ := gather_inv hA hS h1
              refine ⟨st', fp', fl', F', (y, d), ms, bs, fun i => match i with | 0 => none' | i + 1 => fps i, k1, k2, k3, k4, ⟨fun i j hij b hb hb' => ?_⟩, fun i b hb => ?_, k7, k8, ⟨_, _, rfl, hv, nofun, rep_s (rep_freeze (fun b hb => .inl (k3 b hb)) hrep hnj (fun b hb => ?_)), k9⟩⟩
              · cases i <;> cases j <;> first | exact hb.elim | exact hb'.elim | exact k5.disj _ _ (by omega) b hb hb'
              · cases i <;> first | exact hb.elim | exact k6 _ b hb
              · obtain ⟨_, _, hc, _⟩ := hfq b hb
                cases hc
            cases src with
            | none => cases cl <;> exact hnone rfl h1
            | some rp =>
            obtain ⟨r, p⟩ := rp
            cases cl with
            | true =>
              obtain ⟨st', fp', fl', F', d, ms, bs, fps, k1, k2, k3, k4, k5, k6, k7, k8, k9⟩ := gather_inv hA hS h1
              split at k1
              · rename_i hms
                have hr : r ∉ ms := fun hc => by
                  have := List.all_eq_true.1 hms r hc
                  rw [Nat.beq_refl] at this
                  cases this
                have hd' : DataAt F' w st' V (a.eval x) u mu y (some (r, p)) := by
                  obtain ⟨d0, t0, m0, x0, d1, d2⟩ := hd
                  exact ⟨d0, t0, m0, x0, (k7 rfl r hr _ _ _).2 d1, d2⟩
                obtain ⟨_, _, fq1, hrep1, hfq1⟩ := hd'.rep k2
                refine ⟨st', fp', fl', F', (y, d), ms, r :: bs, fun i => match i with | 0 => none' | i + 1 => fps i, k1, k2, k3, k4, ⟨fun i j hij b hb hb' => ?_⟩, fun i b hb => ?_, k7, fun hc => (by cases hc), ⟨_, _, rfl, hv, nofun, rep_s (rep_freeze (F' := fun b => F' b ∨ ∃ q, q ∈ r :: bs ∧ fp' q b) (fun b hb => .inl hb) hrep1 hnj (fun b hb => ?_)), k9.mono (fun b hb => ?_)⟩⟩
                · cases i <;> cases j <;> first | exact hb.elim | exact hb'.elim | exact k5.disj _ _ (by omega) b hb hb'
                · cases i <;> first | exact hb.elim | exact k6 _ b hb
                · obtain ⟨r', p', e1, e2⟩ := hfq1 b hb
                  cases e1
                  exact .inr ⟨r, List.mem_cons_self, e2⟩
                · rcases hb with hb | ⟨q, hq, hb⟩
                  · exact .inl hb
                  · exact .inr ⟨q, List.mem_cons_of_mem _ hq, hb⟩
              · simp [RM.run] at k1
            | false =>
              obtain ⟨st1, fp1, F1, h2, hS1, hF1, hv1, hrep1⟩ := freeze_inv hS hd nofun h1
              obtain ⟨st', fp', fl', F', d, ms, bs, fps, k1, k2, k3, k4, k5, k6, k7, k8, k9⟩ := gather_inv hA hS1 h2
              refine ⟨st', fp', fl', F', (y, d), ms, bs, fun i => match i with | 0 => none' | i + 1 => fps i, k1, k2, fun b hb => k3 b (hF1 b hb), k4, ⟨fun i j hij b hb hb' => ?_⟩, fun i b hb => ?_, nofun, k8, ⟨_, _, rfl, hv, nofun, rep_s (rep_frame (fun b hb => .inl (k3 b hb)) (fun _ _ => rfl) (fun _ _ => rfl) hrep1), k9⟩⟩
              · cases i <;> cases j <;> first | exact hb.elim | exact hb'.elim | exact k5.disj _ _ (by omega) b hb hb'
              · cases i <;> first | exact hb.elim | exact k6 _ b hb
          · simp [RM.run] at h1
      · rename_i hms
        split at h1
        · rename_i he
          obtain ⟨st1, fp1, fq, F1, h2, hS1, hF1, hv1, hm1, hrep1, hfl, hiff⟩ := take_melt (m' := m) hS hd he h1
          obtain ⟨st', fp', fl', F', d, ms, bs, fps, k1, k2, k3, k4, k5, k6, k7, k8, k9⟩ := gather_inv hA hS1 h2
          have hrest : ∀ ms', (∀ r, r ∉ ms' → r ∉ ms ∧ (src = none ∨ ∃ r0 p0, src = some (r0, p0) ∧ r ≠ r0)) → (k (y, d) ms' bs).run C st' Kk = some res → ∃ st' fp', ∃ fl' F' : Blks, ∃ d ms bs, ∃ fps : Nat → Blks, (k d ms bs).run C st' Kk = some res ∧ SR e F' w st' V fp' fl' ∧ (∀ b, F b → F' b) ∧ (∀ b, fl b → fl' b) ∧ Disj fps ∧ (∀ i b, fps i b → fl' b ∧ ¬ fl b) ∧
              (cl = true → ∀ r, r ∉ ms → ∀ t m x, st' r = .v t m x ↔ st r = .v t m x) ∧ (cl = false → bs = []) ∧ ArgsR (fun b => F' b ∨ ∃ r, r ∈ bs ∧ fp' r b) w (.val u m :: ks) d ((x :: xs).map a.eval) fps := by
            intro ms' hms' k1'
            refine ⟨st', fp', fl', F', (y, d), ms', bs, fun i => match i with | 0 => fq | i + 1 => fps i, k1', k2, fun b hb => k3 b (hF1 b hb), fun b hb => k4 b (.inl hb), ⟨fun i j hij b hb hb' => ?_⟩, fun i b hb => ?_, fun hcl r hr t1 m1 x1 => ?_, k8, ⟨_, _, rfl, hv1, hm1, rep_frame (fun b hb => .inl (k3 b hb)) (fun _ _ => rfl) (fun _ _ => rfl) hrep1, k9⟩⟩
            · cases i <;> cases j
              · exact hij rfl
              · exact (k6 _ b hb').2 (.inr hb)
              · exact (k6 _ b hb).2 (.inr hb')
              · exact k5.disj _ _ (by omega) b hb hb'
            · cases i
              · exact ⟨k4 b (.inr hb), hfl b hb⟩
              · exact ⟨(k6 _ b hb).1, fun hc => (k6 _ b hb).2 (.inl hc)⟩
            · obtain ⟨q1, q2⟩ := hms' r hr
              rw [k7 hcl r q1]
              exact hiff r q2 _ _ _
          cases src with
          | none => exact hrest ms (fun r hr => ⟨hr, .inl rfl⟩) k1
          | some rp =>
            obtain ⟨r0, p0⟩ := rp
            exact hrest (r0 :: ms) (fun r hr => ⟨fun hc => hr (List.mem_cons_of_mem _ hc), .inr ⟨r0, p0, rfl, fun hc => hr (hc ▸ List.mem_cons_self)⟩⟩) k1
        · simp [RM.run] at h1

/-- fields below: the same place whatever lies there -/
theorem rs_fldP {w : World} : ∀ {q : List PE} {u u1 : Ty}, fldP u q = some u1 → flds q = true ∧ ∃ k, ∀ (w : World) (c : Cells) (b o : Nat), rs w u c (some (b, o)) q = some (u1, fun j => c (k + j), some (b, o + k)) := by
  intro q u
  induction u generalizing q with
  | pair x y ihx ihy =>
    intro u1 h
    cases q with
    | nil =>
      simp only [fldP, Option.some.injEq] at h
      subst h
      exact ⟨rfl, 0, fun w c b o => by simp [rs]⟩
    | cons e q =>
      cases e with
      | fld n =>
        cases n with
        | zero =>
          simp only [fldP] at h
          obtain ⟨h1, k, h2⟩ := ihx h
          exact ⟨by simpa [flds] using h1, k, fun w c b o => by simp only [rs]; exact h2 w c b o⟩
        | succ n =>
          simp only [fldP] at h
          obtain ⟨h1, k, h2⟩ := ihy h
          refine ⟨by simpa [flds] using h1, x.size + k, fun w c b o => ?_⟩
          simp only [rs, Option.map_some, h2, Option.some.injEq, Prod.mk.injEq, true_and]
          exact ⟨by funext j; rw [Nat.add_assoc], by omega⟩
      | _ => simp [fldP] at h
  | _ =>
    intro u1 h
    cases q with
    | nil =>
      simp only [fldP, Option.some.injEq] at h
      subst h
      exact ⟨rfl, 0, fun w c b o => by simp [rs]⟩
    | cons e q => simp [fldP] at h

def AlsOk (w : World) (st : St) (V : Nat → Value) (l : List (Nat × Nat × List PE × Ty)) : Prop := ∀ q ∈ l, ∃ m x, st q.2.1 = .v q.2.2.2 m x ∧ AlOk w st V q.2.1 q.2.2.1 (V q.1)

theorem saveAl_inv {α : Type} {Kk : α → St → Option R} {rs : List (Option (Nat × TypeId))} (hS : SR e F w st V fp fl) : ∀ {l : List Nat} {k : List (Nat × Nat × List PE × Ty) → RM α}, (saveAl rs l k).run C st Kk = some res → ∃ al, (k al).run C st Kk = some res ∧ AlsOk w st V al
  | [], k, h => ⟨[], h, fun q hq => by cases hq⟩
  | s :: l, k, h => by
    simp only [saveAl, RM.run] at h
    split at h
    · rename_i r p hs
      split at h
      · simp only [RM.run] at h
        split at h
        · rename_i t m x hr
          obtain ⟨al, h1, h2⟩ := saveAl_inv hS h
          refine ⟨_, h1, fun q hq => ?_⟩
          rcases List.mem_cons.1 hq with rfl | hq
          · have hsv := hS.sv s
            rw [hs] at hsv
            exact ⟨m, x, hr, hsv⟩
          · exact h2 q hq
        · exact saveAl_inv hS h
      · exact saveAl_inv hS h
    · exact saveAl_inv hS h

theorem backAl_inv {α : Type} {Kk : α → St → Option R} {w' : World} {st0 : St} : ∀ {l : List (Nat × Nat × List PE × Ty)} {k : RM α} {st : St} {fp : Nat → Blks} {fl : Blks}, SR e F w' st V fp fl → AlsOk w st0 V l → (backAl l k).run C st Kk = some res → ∃ st' fp', k.run C st' Kk = some res ∧ SR e F w' st' V fp' fl
  | [], k, st, fp, fl, hS, _, h => ⟨st, fp, h, hS⟩
  | (s, r, p, t) :: l, k, st, fp, fl, hS, hal, h => by
    have hl : AlsOk w st0 V l := fun q hq => hal q (List.mem_cons_of_mem _ hq)
    simp only [backAl, RM.run] at h
    split at h
    · rename_i T u m y hr
      split at h
      · rename_i T' u' q
        split at h
        · rename_i u1 hck hfl
          simp only [Bool.and_eq_true, Bool.not_eq_true'] at hck
          obtain ⟨⟨⟨k1, k2⟩, k3⟩, k4⟩ := hck
          have e1 := Nat.eq_of_beq_eq_true k1
          have e2 := Ty.eqb_eq k2
          subst e1
          subst e2
          obtain ⟨m0, x0, h0, ha⟩ := hal _ List.mem_cons_self
          obtain ⟨_, _, _, u2, c2, b, o, a4, a5⟩ := ha _ _ _ h0
          obtain ⟨f1, kk, f2⟩ := rs_fldP (w := w') hfl
          have hsr : s ≠ r := fun hc => by rw [hc, Nat.beq_refl] at k4; cases k4
          simp only [RM.run] at h
          have hsv : svR F w' st V none' (V s) (.al r (.der :: q)) := by
            intro t1 m1 x1 h1
            rw [hr] at h1
            cases h1
            have hrv := hS.sv r
            rw [hr] at hrv
            have hp := hrv.2
            simp only [rep] at hp
            obtain ⟨A, p1, ad, rfl, hsp, p2⟩ := hp
            obtain ⟨b1, o1, sp⟩ := ad
            simp only at hsp
            subst hsp
            have hnew : Trm.rs w' (.ptr T u) (cv (V r)) none (.der :: q) = some (u1, fun j => rowW w' b1 o1 (kk + j), some (b1, o1 + kk)) := by
              simp only [Trm.rs, p1]
              exact f2 w' _ b1 o1
            have hold : Trm.rs w (.ptr T u) (cv (V r)) none (.der :: q) = some (u1, fun j => rowW w b1 o1 (kk + j), some (b1, o1 + kk)) := by
              simp only [Trm.rs, p1]
              exact f2 w _ b1 o1
            simp only at a4
            rw [hold] at a4
            simp only [Option.some.injEq, Prod.mk.injEq] at a4
            obtain ⟨_, _, rfl, rfl⟩ := a4
            have hin : Trm.rs w' u (rowW w' b1 o1) (some (b1, o1)) q = some (u1, fun j => rowW w' b1 o1 (kk + j), some (b1, o1 + kk)) := f2 w' _ b1 o1
            refine ⟨rfl, ?_, ?_, u1, _, b1, o1 + kk, hnew, a5⟩
            · simp only [ownP]; exact flds_ownP f1 hin
            · simp only [inP]; exact flds_inP f1 hin
          have hS1 := hS.fillO (d := s) (v := V s) (fq := none') (fl' := fl) (fun _ => rfl) rfl hsv (fun _ hb => hb.elim) (fun b hb => ⟨hb, fun h => h⟩)
          rw [updV_self] at hS1
          exact backAl_inv hS1 hl h
        · exact backAl_inv hS hl h
      · exact backAl_inv hS hl h
    · exact backAl_inv hS hl h

theorem fnsOf_inv {α : Type} {Kk : α → St → Option R} : ∀ {xs : List Operand} {k : List FuncId → RM α}, (fnsOf env xs k).run C st Kk = some res → ∃ gs, (k gs).run C st Kk = some res
  | [], k, h => ⟨[], h⟩
  | x :: xs, k, h => by
    simp only [fnsOf] at h
    obtain ⟨sv, h1, _⟩ := rdO_inv h
    split at h1
    · exact fnsOf_inv (k := fun l => k (_ :: l)) h1 |>.elim fun gs h2 => ⟨_, h2⟩
    · exact fnsOf_inv h1

end
end Go.Trm
