import Derived.Test.YtiooemenojlbjaaGreatTrmLoop
set_option linter.unusedVariables false
set_option linter.unusedSimpArgs false
namespace Go.Trm

/-! ## Calls that are looked into -/

def resSV1 {α : Type} (env : Env) (r : Nat) (k : SV → RM α) : RM α :=
  match Nat.blt r env.n with
  | false => .fail
  | true => .get (env.b + r) fun v => match v with
    | .v t .s y => k (.v t .s y)
    | .v _ .j _ => .fail
    | .v t m y => take (some (env.b + r, [])) (k (.v t m y))
    | .tup _ => .fail
    | .un => .fail
    | .bx _ _ => .fail
    | .lz q p => match hi env.b q with
      | true => rdV env 0 (.tmp r) fun t m y src => take src (k (.v t m y))
      | false => k (.lz q p)
    | v => match v.cut env.b with
      | .un => .fail
      | _ => k v
def resTup {α : Type} (env : Env) : List Nat → (List SV → RM α) → RM α
  | [], k => k []
  | r :: rs, k => rdV env 0 (.tmp r) fun t m y src => take src (resTup env rs fun l => k (.v t m y :: l))
def resSVs {α : Type} (env : Env) (rs : List Nat) (k : SV → RM α) : RM α :=
  match rs with
  | [r] => resSV1 env r k
  | rs => resTup env rs fun l => k (.tup l)

/-- how a call that is looked into ends -/
noncomputable def inlK {R : Type} (env : Env) (rs : List (Nat × Option TypeId)) (K : SV → St → Option R) (Kp : PanV → St → Option R) : Ex → St → Option R
  | .exit _, _ => none
  | .pan p, st => Kp p (st.leave env.b)
  | _, st => (uncell env (cellsOf rs) (resSVs env (tmpsOf rs) fun sv => .ret sv)).run Cx.no st fun sv st => K sv (st.leave env.b)

def InlF (P : Program) (lim : Nat) (f : FuncId) (g : (R : Type) → St → List SV → (SV → St → Option R) → (PanV → St → Option R) → Option R) : Prop := ∀ (R : Type) st xs (K : SV → St → Option R) (Kp : PanV → St → Option R) res, g R st xs K Kp = some res →
  (∃ fn code, P.funcs[f]? = some fn ∧ (fn.name == "runtime.NumGoroutine") = false ∧ fn.body = some code) ∧
  ∀ (e : Entry) (F : Blks) (w : World) (V : Nat → Value) (fp : Nat → Blks) (vals : List Value) (Rp : Ending → World → Prop), SR e F w st V fp none' → vals.length = xs.length → (∀ (k : Nat) sv v, xs[k]? = some sv → vals[k]? = some v → svR F w st V none' v sv) →
    (∀ F' w' st' V' fp' fo v sv, SR e F' w' st' V' fp' fo → (∀ i, i < lim ∨ gh0 ≤ i → V' i = V i) → svR F' w' st' V' fo v sv → K sv st' = some res → Rp (.returned v) w') →
    (∀ F' w' st' V' fp' p ch, SR e F' w' st' V' fp' none' → (∀ i, i < lim ∨ gh0 ≤ i → V' i = V i) → PanR F' w' p ch → Kp p st' = some res → Rp (.panicked ch) w') →
    Calls P f vals.toArray w Rp

theorem inlOk_of {P : Program} {lim : Nat} {inl : Inl} (h : ∀ f d, InlF P lim f (fun R st xs K Kp => inl f d R st xs K Kp)) : InlOk P lim inl := fun f d R st xs K Kp res hr => h f d R st xs K Kp res hr
/-- none -/
noncomputable def inl0 : Inl := fun _ _ _ _ _ _ _ => none
theorem inl0_ok {P : Program} {lim : Nat} : InlOk P lim inl0 := fun _ _ _ _ _ _ _ _ h => by cases h
theorem inlF_none {P : Program} {lim : Nat} {f : FuncId} : InlF P lim f (fun _ _ _ _ _ => none) := fun _ _ _ _ _ _ h => by cases h

section
variable {P : Program} {env : Env} {e : Entry} {F : Blks} {w : World} {st : St} {V : Nat → Value} {fp : Nat → Blks} {fl : Blks} {a : Act} {R : Type} {res : R} {C : Cx R} {gh : Nat → Value}

theorem cond_un (b : Bool) (v : SV) : cond b .un v = v ∨ cond b .un v = SV.un := by cases b <;> simp
theorem cut_cases (b : Nat) (v : SV) : v.cut b = v ∨ v.cut b = .un := by
  cases v with
  | al r p => exact cond_un _ _
  | lz r p => exact cond_un _ _
  | sub r p l h => exact cond_un _ _
  | fn f s c => exact cond_un _ _
  | bx r p => exact cond_un _ _
  | _ => exact .inl rfl

/-- something may be forgotten -/
theorem SR.weak {st' : St} (hS : SR e F w st V fp fl) (hon : ∀ i, st' i = st i ∨ st' i = .un) : SR e F w st' V fp fl := by
  have hst : ∀ r, ∀ {t1 m1 x1}, st' r = .v t1 m1 x1 → st r = .v t1 m1 x1 := by
    intro r t1 m1 x1 h
    rcases hon r with h1 | h1
    · rw [← h1]; exact h
    · rw [h1] at h; cases h
  have hal : ∀ r q v, AlOk w st V r q v → AlOk w st' V r q v := fun r q v ha t1 m1 x1 h1 => ha t1 m1 x1 (hst r h1)
  refine ⟨fun i => ?_, hS.disj, hS.notF, hS.inH, hS.inF, hS.flD, hS.flF, hS.flH, hS.g1, hS.g2, hS.g3, hS.g4, hS.g5, hS.g6⟩
  rcases hon i with h1 | h1
  · rw [h1]
    have h2 := hS.sv i
    cases hsi : st i with
    | v t1 m1 x1 => rw [hsi] at h2; exact h2
    | al r q => rw [hsi] at h2; exact hal _ _ _ h2
    | lz r q => rw [hsi] at h2; exact fun t1 m1 x1 h3 => h2 t1 m1 x1 (hst r h3)
    | sub r q lo hi => rw [hsi] at h2; exact fun t1 m1 x1 h3 => h2 t1 m1 x1 (hst r h3)
    | fn f s caps =>
      rw [hsi] at h2
      obtain ⟨us, vs, e1, e2, e3⟩ := h2
      exact ⟨us, vs, e1, e2.imp (fun _ _ hb => hb) fun q u _ => hal _ _ _, e3.imp (fun _ _ hb => hb) fun q u _ => hal _ _ _⟩
    | bx r q =>
      rw [hsi] at h2
      exact h2
    | ifc T t1 x1 => rw [hsi] at h2; exact h2
    | tup l => rw [hsi] at h2; exact h2
    | nil => rw [hsi] at h2; exact h2
    | un => trivial
  · rw [h1]; trivial

theorem leave_weak (st : St) (b : Nat) : ∀ i, (st.leave b) i = st i ∨ (st.leave b) i = .un := by
  intro i
  unfold St.leave
  split
  · exact .inr rfl
  · exact cut_cases b _

theorem hi_iff {b i : Nat} : hi b i = true ↔ b ≤ i ∧ i < gh0 := by
  unfold hi
  rw [Bool.and_eq_true]
  constructor
  · rintro ⟨h1, h2⟩; exact ⟨Nat.le_of_ble_eq_true h1, blt_lt h2⟩
  · rintro ⟨h1, h2⟩; exact ⟨Nat.ble_eq_true_of_le h1, Nat.ble_eq_true_of_le h2⟩
theorem hi_false {b i : Nat} : hi b i = false ↔ i < b ∨ gh0 ≤ i := by
  constructor
  · intro h
    rcases Nat.lt_or_ge i b with h1 | h1
    · exact .inl h1
    · rcases Nat.lt_or_ge i gh0 with h2 | h2
      · rw [hi_iff.2 ⟨h1, h2⟩] at h; cases h
      · exact .inr h2
  · intro h
    cases hb : hi b i with
    | false => rfl
    | true => have := hi_iff.1 hb; omega

/-- a value seen from another frame -/
theorem svR_cut {b : Nat} {st0 : St} {V0 : Nat → Value} (hV : ∀ r, hi b r = false → V0 r = V r) (hst : ∀ r {t m x}, hi b r = false → st0 r = .v t m x → st r = .v t m x) {fq : Blks} {v : Value} {sv : SV} (h : svR F w st V fq v sv) : svR F w st0 V0 fq v (sv.cut b) := by
  have hal : ∀ r q v, hi b r = false → AlOk w st V r q v → AlOk w st0 V0 r q v := by
    intro r q v hr ha t1 m1 x1 h1
    obtain ⟨a1, a2, a3, u1, c1, b1, o1, a4, a5⟩ := ha t1 m1 x1 (hst r hr h1)
    exact ⟨a1, a2, a3, u1, c1, b1, o1, by rw [hV r hr]; exact a4, a5⟩
  have hbx : ∀ r u, BxOk F w V r u → BxOk F w V0 r u := fun r u hb => hb.imp (fun _ hb => hb) (fun _ _ => rfl) (fun hr => hV r (hi_false.2 (.inr hr)))
  cases sv with
  | v t m x => exact h
  | al r p =>
    simp only [SV.cut]
    cases hr : hi b r with
    | true => trivial
    | false => exact hal _ _ _ hr h
  | lz r p =>
    simp only [SV.cut]
    cases hr : hi b r with
    | true => trivial
    | false =>
      intro t1 m1 x1 h1
      obtain ⟨a2, a3, u1, c1, ad1, a4, a5⟩ := h t1 m1 x1 (hst r hr h1)
      exact ⟨a2, a3, u1, c1, ad1, by rw [hV r hr]; exact a4, a5⟩
  | sub r p lo h' =>
    simp only [SV.cut]
    cases hr : hi b r with
    | true => trivial
    | false =>
      intro t1 m1 x1 h1
      obtain ⟨a2, a3, u1, c1, ad1, a4, a5⟩ := h t1 m1 x1 (hst r hr h1)
      exact ⟨a2, a3, u1, c1, ad1, by rw [hV r hr]; exact a4, a5⟩
  | fn f s caps =>
    simp only [SV.cut]
    cases hr : (s ++ caps).any fun c => hi b c.1 with
    | true => trivial
    | false =>
      obtain ⟨k1, k2⟩ := any_app hr
      obtain ⟨us, vs, e1, e2, e3⟩ := h
      exact ⟨us, vs, e1, e2.imp hbx fun q u hq => hal _ _ _ (k1 q hq), e3.imp hbx fun q u hq => hal _ _ _ (k2 q hq)⟩
  | bx r p =>
    simp only [SV.cut]
    cases hr : hi b r with
    | true => trivial
    | false => exact hbx _ _ h
  | ifc T t x => exact h
  | tup l => exact h
  | nil => exact h
  | un => trivial

theorem svR_fp {fq fq' : Blks} (hf : ∀ b, fq b → fq' b) {v : Value} {sv : SV} (h : svR F w st V fq v sv) : svR F w st V fq' v sv := by
  cases sv with
  | v t m x => exact ⟨h.1, rep_fp hf h.2⟩
  | tup l =>
    obtain ⟨vs, e1, e2, fs, e3, e4, e5⟩ := h
    exact ⟨vs, e1, e2, fs, e3, fun k b hb => hf b (e4 k b hb), e5⟩
  | _ => exact h

theorem svR_weak {st' : St} (hon : ∀ i, st' i = st i ∨ st' i = .un) {fq : Blks} {v : Value} {sv : SV} (h : svR F w st V fq v sv) : svR F w st' V fq v sv := by
  have hst : ∀ r, ∀ {t1 m1 x1}, st' r = .v t1 m1 x1 → st r = .v t1 m1 x1 := by
    intro r t1 m1 x1 h
    rcases hon r with h1 | h1
    · rw [← h1]; exact h
    · rw [h1] at h; cases h
  have hal : ∀ r q v, AlOk w st V r q v → AlOk w st' V r q v := fun r q v ha t1 m1 x1 h1 => ha t1 m1 x1 (hst r h1)
  cases sv with
  | v t m x => exact h
  | al r p => exact hal _ _ _ h
  | lz r p => exact fun t1 m1 x1 h3 => h t1 m1 x1 (hst r h3)
  | sub r p lo h' => exact fun t1 m1 x1 h3 => h t1 m1 x1 (hst r h3)
  | fn f s caps =>
    obtain ⟨us, vs, e1, e2, e3⟩ := h
    exact ⟨us, vs, e1, e2.imp (fun _ _ hb => hb) fun q u _ => hal _ _ _, e3.imp (fun _ _ hb => hb) fun q u _ => hal _ _ _⟩
  | bx r p => exact h
  | ifc T t x => exact h
  | tup l => exact h
  | nil => exact h
  | un => trivial

/-- several results, taken over -/
theorem resTup_inv {α : Type} {Kk : α → St → Option R} (hA : AR env gh a V) : ∀ {rs : List Nat} {k : List SV → RM α} {st : St} {fp : Nat → Blks} {fl : Blks}, SR e F w st V fp fl → (resTup env rs k).run C st Kk = some res →
    ∃ l st' fp', ∃ fl' : Blks, ∃ fs : Nat → Blks, (k l).run C st' Kk = some res ∧ SR e F w st' V fp' fl' ∧ (∀ b, fl b → fl' b) ∧ Disj fs ∧ (∀ i b, fs i b → fl' b ∧ ¬ fl b) ∧ l.length = rs.length ∧
      ∀ (i : Nat) t m x, l[i]? = some (.v t m x) → ∃ u, (rs.map fun r => a.tmps.getD r undef)[i]? = some u ∧ (m ≠ .j → isV t u) ∧ rep F w t m x (cv u) (fs i)
  | [], k, st, fp, fl, hS, h => ⟨[], st, fp, fl, fun _ => none', h, hS, fun _ hb => hb, ⟨fun _ _ _ _ hb => hb.elim⟩, fun _ _ hb => hb.elim, rfl, fun i t m x hi => by simp at hi⟩
  | r :: rs, k, st, fp, fl, hS, h => by
    simp only [resTup] at h
    obtain ⟨t, m, y, src, h1, hd, _⟩ := rdV_inv hS hA h
    obtain ⟨st1, fp1, fq, h2, hS1, hv1, hm1, hrep1, hfl, _⟩ := take_inv hS hd h1
    obtain ⟨l, st', fp', fl', fs, k1, k2, k3, k4, k5, k6, k7⟩ := resTup_inv hA hS1 h2
    refine ⟨_, st', fp', fl', fun i => match i with | 0 => fq | i + 1 => fs i, k1, k2, fun b hb => k3 b (.inl hb), ⟨fun i j hij b hb hb' => ?_⟩, fun i b hb => ?_, by simp [k6], fun i t' m' x' hi => ?_⟩
    · cases i <;> cases j
      · exact hij rfl
      · exact (k5 _ b hb').2 (.inr hb)
      · exact (k5 _ b hb).2 (.inr hb')
      · exact k4.disj _ _ (by omega) b hb hb'
    · cases i
      · exact ⟨k3 b (.inr hb), hfl b hb⟩
      · exact ⟨(k5 _ b hb).1, fun hc => (k5 _ b hb).2 (.inl hc)⟩
    · cases i with
      | zero =>
        simp only [List.getElem?_cons_zero, Option.some.injEq] at hi
        cases hi
        exact ⟨_, rfl, fun _ => hv1, hrep1⟩
      | succ i =>
        simp only [List.getElem?_cons_succ] at hi
        obtain ⟨u, q1, q2⟩ := k7 i t' m' x' hi
        exact ⟨u, by simpa using q1, q2⟩

theorem resSV1_inv {α : Type} {Kk : α → St → Option R} (hA : AR env gh a V) {r : Nat} {k : SV → RM α} {st : St} {fp : Nat → Blks} (hS : SR e F w st V fp none') (h : (resSV1 env r k).run C st Kk = some res) :
    ∃ sv st' fp', ∃ fo : Blks, (k sv).run C st' Kk = some res ∧ SR e F w st' V fp' fo ∧ svR F w st' V fo (a.tmps.getD r undef) sv := by
  unfold resSV1 at h
  split at h
  · simp [RM.run] at h
  · rename_i hr
    have hr := blt_lt hr
    have hev : a.tmps.getD r undef = V (env.b + r) := hA.tmps r hr
    rw [hev]
    simp only [RM.run] at h
    have hsv := hS.sv (env.b + r)
    have htk : ∀ {t m y src}, DataAt F w st V (V (env.b + r)) t m y src → (take src (k (.v t m y))).run C st Kk = some res → ∃ sv st' fp', ∃ fo : Blks, (k sv).run C st' Kk = some res ∧ SR e F w st' V fp' fo ∧ svR F w st' V fo (V (env.b + r)) sv := by
      intro t m y src hd h1
      obtain ⟨st1, fp1, fq, h2, hS1, hv1, hm1, hrep1, hfl, _⟩ := take_inv hS hd h1
      exact ⟨_, st1, fp1, fq, h2, hS1.less (fun b hb => .inr hb), fun _ => hv1, hrep1⟩
    have hdx : ∀ {t m y}, st (env.b + r) = .v t m y → m ≠ .j → DataAt F w st V (V (env.b + r)) t m y (some (env.b + r, [])) := by
      intro t m y hst hm
      rw [hst] at hsv
      exact ⟨hm, _, _, _, hst, y, by simp only [getP], by simp [ownP], by simp [inP], cv (V (env.b + r)), none, by simp [rs], by
            have h1 : V (env.b + r) = valOf t (cv (V (env.b + r))) := hsv.1 hm
            have h2 := PartOf.all (c' := cv (V (env.b + r))) t y
            rwa [← h1] at h2⟩
    have hoth : ∀ {sv : SV}, (match sv.cut env.b with | .un => (RM.fail : RM α) | _ => k sv).run C st Kk = some res → svR F w st V none' (V (env.b + r)) sv → ∃ sv st' fp', ∃ fo : Blks, (k sv).run C st' Kk = some res ∧ SR e F w st' V fp' fo ∧ svR F w st' V fo (V (env.b + r)) sv := by
      intro sv h hsv
      split at h
      · simp [RM.run] at h
      · exact ⟨_, st, fp, none', h, hS, hsv⟩
    cases hst : st (env.b + r) with
    | v t m y =>
      rw [hst] at h
      cases m with
      | s =>
        rw [hst] at hsv
        exact ⟨_, st, fp, none', h, hS, ⟨hsv.1, rep_s hsv.2⟩⟩
      | j => simp [RM.run] at h
      | o m => exact htk (hdx hst nofun) h
      | p m m' => exact htk (hdx hst nofun) h
    | tup l => rw [hst] at h; simp [RM.run] at h
    | un => rw [hst] at h; simp [RM.run] at h
    | bx q p => rw [hst] at h; simp [RM.run] at h
    | lz q p =>
      rw [hst] at h
      dsimp only at h
      split at h
      · obtain ⟨t, m, y, src, h1, hd, _⟩ := rdV_inv hS hA h
        have hev2 : a.eval (.tmp r) = V (env.b + r) := hev
        rw [hev2] at hd
        exact htk hd h1
      · rw [hst] at hsv
        exact ⟨_, st, fp, none', h, hS, hsv⟩
    | al q p => rw [hst] at h hsv; exact hoth (sv := .al q p) h hsv
    | sub q p lo hi => rw [hst] at h hsv; exact hoth (sv := .sub q p lo hi) h hsv
    | fn f s c => rw [hst] at h hsv; exact hoth (sv := .fn f s c) h hsv
    | ifc T t x => rw [hst] at h hsv; exact hoth (sv := .ifc T t x) h hsv
    | nil => rw [hst] at h hsv; exact hoth (sv := .nil) h hsv

theorem resSVs_inv {α : Type} {Kk : α → St → Option R} (hA : AR env gh a V) {rs : List Nat} {k : SV → RM α} {st : St} {fp : Nat → Blks} (hS : SR e F w st V fp none') (h : (resSVs env rs k).run C st Kk = some res) :
    ∃ sv st' fp', ∃ fo : Blks, (k sv).run C st' Kk = some res ∧ SR e F w st' V fp' fo ∧ svR F w st' V fo (resVal (rs.map fun r => a.tmps.getD r undef)) sv := by
  have hgen : ∀ {rs : List Nat}, (∀ r, rs ≠ [r]) → (resTup env rs fun l => k (.tup l)).run C st Kk = some res → ∃ sv st' fp', ∃ fo : Blks, (k sv).run C st' Kk = some res ∧ SR e F w st' V fp' fo ∧ svR F w st' V fo (resVal (rs.map fun r => a.tmps.getD r undef)) sv := by
    intro rs hrs h
    obtain ⟨l, st', fp', fl', fs, k1, k2, k3, k4, k5, k6, k7⟩ := resTup_inv hA hS h
    refine ⟨_, st', fp', fl', k1, k2, rs.map (fun r => a.tmps.getD r undef), ?_, by simp [k6], fs, k4, fun i b hb => (k5 i b hb).1, k7⟩
    rcases rs with _ | ⟨r, _ | ⟨r', rs⟩⟩
    · rfl
    · exact absurd rfl (hrs r)
    · rfl
  unfold resSVs at h
  split at h
  · exact resSV1_inv hA hS h
  · rename_i hn
    exact hgen (fun r hr => hn r hr) h

/-- A CALL THAT IS LOOKED INTO IS WHAT THE CODE COMPUTES -/
theorem inlF_of {inl : Inl} {f : FuncId} {fn : Func} {code : Code} {rs : List (Nat × Option TypeId)} {lp : Loops} (hm : P.follows .mixedOrders = true) (hE : EnvTy P env) (hF : EnvFn P env) (hI : InlOk P env.top inl) (hf : P.funcs[f]? = some fn) (hname : (fn.name == "runtime.NumGoroutine") = false) (hb : fn.body = some code) (hr : fn.results = (rs.map toRV).toArray)
    (hn : env.n = fn.ntmps) (hlen : (Nat.blt env.top gh0 && !env.df) = true) (hL : LoopsOk env lp inl code) (hrd : rvOk rs = true) :
    InlF P env.b f (fun R st xs K Kp => match Nat.ble xs.length env.n with | true => evC env lp inl code (st.enter env.b xs) (inlK env rs K Kp) | false => none) := by
  intro R st xs K Kp res h
  dsimp only at h
  split at h
  case h_2 => cases h
  rename_i hxs
  have hxs := Nat.le_of_ble_eq_true hxs
  refine ⟨⟨fn, code, hf, hname, hb⟩, ?_⟩
  intro e F w V fp vals Rp hS hvl hsv hret hpan
  have hnd := rvOk_ne hrd
  simp only [Bool.and_eq_true, Bool.not_eq_true'] at hlen
  have hlim := blt_lt hlen.1
  unfold Env.top at hlim
  have hdf := hlen.2
  refine calls_of_wp hf hb ?_
  let tm : Array Value := vals.toArray ++ Array.replicate (fn.ntmps - vals.toArray.size) undef
  let V0 : Nat → Value := fun i => if hi env.b i = true then tm.getD (i - env.b) undef else V i
  let fp0 : Nat → Blks := fun i b => hi env.b i = false ∧ fp i b
  have htm : ∀ i v, vals[i]? = some v → tm.getD i undef = v := by
    intro i v hv
    have hi : i < vals.length := (List.getElem?_eq_some_iff.1 hv).1
    simp only [tm, Array.getD_eq_getD_getElem?]
    rw [Array.getElem?_append_left (by simpa using hi)]
    simp [hv]
  have hVlo : ∀ r, hi env.b r = false → V0 r = V r := fun r hr => by show (if _ then _ else _) = _; rw [hr]; rfl
  have hstlo : ∀ r {t m x}, hi env.b r = false → (st.enter env.b xs) r = .v t m x → st r = .v t m x := by
    intro r t m x hr h1
    unfold St.enter at h1
    rw [hr] at h1
    rcases cut_cases env.b (st r) with hc | hc
    · simp only [hc] at h1; exact h1
    · simp only [hc] at h1; cases h1
  have hA0 : AR env V0 { tmps := tm, defers := [] } V0 := by
    refine ⟨by simp only [tm, Array.size_append, List.size_toArray, Array.size_replicate]; omega, fun i hi' => ?_, by rw [hdf], by omega, fun i _ => rfl⟩
    show tm.getD i undef = if _ then _ else _
    rw [if_pos (hi_iff.2 ⟨by omega, by omega⟩), show env.b + i - env.b = i by omega]
  have hS0 : SR e F w (st.enter env.b xs) V0 fp0 none' := by
    refine ⟨fun i => ?_, ⟨fun i j hij b hb hb' => hS.disj.disj i j hij b hb.2 hb'.2⟩, fun i b hb => hS.notF i b hb.2, fun i b hb => hS.inH i b hb.2, hS.inF, fun i b hb hc => hc, fun _ hb => hb.elim, fun _ hb => hb.elim, hS.g1, hS.g2, fun i b hb => hS.g3 i b hb.2, fun _ hb => hb.elim, hS.g5, hS.g6⟩
    cases hh : hi env.b i with
    | false =>
      have h1 : (st.enter env.b xs) i = (st i).cut env.b := by unfold St.enter; rw [hh]
      rw [h1, hVlo i hh]
      refine svR_fp (fun b hb => ⟨hh, hb⟩) (svR_cut hVlo hstlo (hS.sv i))
    | true =>
      have h1 : (st.enter env.b xs) i = (xs.getD (i - env.b) .un).cut env.b := by unfold St.enter; rw [hh]
      have h2 : V0 i = tm.getD (i - env.b) undef := if_pos hh
      rw [h1, h2]
      by_cases hlt : i - env.b < xs.length
      · have hx : xs[i - env.b]? = some xs[i - env.b] := List.getElem?_eq_getElem hlt
        have hv : vals[i - env.b]? = some vals[i - env.b] := List.getElem?_eq_getElem (by omega)
        rw [htm _ _ hv, List.getD_eq_getElem?_getD, hx]
        exact svR_fp (fun b hb => hb.elim) (svR_cut hVlo hstlo (hsv _ _ _ hx hv))
      · have : xs.getD (i - env.b) .un = .un := by simp [List.getD, Nat.le_of_not_lt hlt]
        rw [this]
        trivial
  have hkeep : ∀ {V1 : Nat → Value} {a1 : Act}, AR env V0 a1 V1 → ∀ i, i < env.b ∨ gh0 ≤ i → V1 i = V i := fun hA i hi' => by
    rw [hA.keep i hi', hVlo i (hi_false.2 hi')]
  have hdef : ∀ {V1 : Nat → Value} {a1 : Act}, AR env V0 a1 V1 → a1.defers = [] := fun hA => by have := hA.defers; rwa [hdf] at this
  refine evC_sound hm hE hF hI (e := e) hL (fun _ _ _ _ _ _ h => h) ⟨?_, ?_⟩ hS0 hA0 h
  case refine_2 =>
    intro p ch F1 w1 st1 V1 fp1 a1 hS1 hA1 hp h1
    exact ⟨hdef hA1, hpan _ _ _ _ _ p ch (hS1.weak (leave_weak st1 env.b)) (hkeep hA1) hp h1⟩
  intro x F1 w1 st1 V1 fp1 a1 hx hS1 hA1 h1
  have key : (uncell env (cellsOf rs) (resSVs env (tmpsOf rs) fun sv => .ret sv)).run Cx.no st1 (fun sv st => K sv (st.leave env.b)) = some res → a1.defers = [] ∧ ∃ v, (results fn a1.tmps).run P w1 = .ok v w1 ∧ Rp (.returned v) w1 := by
    intro h1
    obtain ⟨st2, V2, fp2, a2, h2, hS2, hA2, u1, u2⟩ := uncell_inv hE hS1 hA1 h1
    obtain ⟨sv, st3, fp3, fo, h3, hS3, hsv3⟩ := resSVs_inv hA2 hS2 h2
    simp only [RM.run] at h3
    refine ⟨hdef hA1, _, run_results (vals := a2.tmps) hr (fun r T hq => u1 (r, T) (mem_cells.2 hq)) (fun r hq => u2 r (fun q hqc hc => hnd r q hq hqc hc)), hret _ _ _ _ _ fo _ sv (hS3.weak (leave_weak st3 env.b)) (hkeep hA2) (svR_weak (leave_weak st3 env.b) hsv3) h3⟩
  cases x with
  | exit i => cases h1
  | pan p => cases hx
  | normal => exact key h1
  | ret => exact key h1

end
end Go.Trm
