import Derived.Test.YthidebepdpkgkabTrmRun
set_option linter.unusedVariables false
set_option linter.unusedSimpArgs false
namespace Go.Trm

def pks : List (Ty × Md) → List PK
  | [] => []
  | k :: ks => .val k.1 k.2 :: pks ks

def toDR : (ks : List (Ty × Md)) → DI (pks ks) → DR ks
  | [], _ => ()
  | _ :: ks, d => (d.1, toDR ks d.2)

/-- the slots of the arguments -/
def initS : (ks : List PK) → DI ks → List SV
  | [], _ => []
  | .val t m :: ks, d => .v t m d.1 :: initS ks d.2
  | .fn f :: ks, d => .fn f [] :: initS ks d.2
  | .ref _ _ _ :: ks, d => .un :: initS ks d.2

/-- how it begins -/
def St.args (l : List SV) : St := fun i => l.getD i .un

/-- how it ends: the results are taken over -/
noncomputable def retK {R : Type} (env : Env) (ks : List (Ty × Md)) (rs : List Nat) (K : DR ks → Option R) : Ex → St → Option R
  | .exit _, _ => none
  | _, st => (gather env false (pks ks) (rs.map Operand.tmp) [] fun d _ _ => .ret (toDR ks d)).run st fun r _ => K r

theorem initS_len : ∀ {ks : List PK} {d : DI ks}, (initS ks d).length = ks.length
  | [], _ => rfl
  | .val _ _ :: _, _ => by simp [initS, initS_len]
  | .fn _ :: _, _ => by simp [initS, initS_len]
  | .ref _ _ _ :: _, _ => by simp [initS, initS_len]

theorem args_len {F : Blks} {w : World} : ∀ {ks : List PK} {d : DI ks} {vs : List Value} {fps : Nat → Blks}, ArgsR F w ks d vs fps → vs.length = ks.length
  | [], _, _, _, h => by simp only [ArgsR] at h; subst h; rfl
  | .val _ _ :: _, _, _, _, ⟨v, vs', h1, _, _, _, h5⟩ => by subst h1; simp [args_len h5]
  | .fn _ :: _, _, _, _, ⟨v, vs', h1, _, h5⟩ => by subst h1; simp [args_len h5]
  | .ref _ _ _ :: _, _, _, _, h => h.elim

theorem args_sv {F : Blks} {w : World} {st : St} {V : Nat → Value} : ∀ {ks : List PK} {d : DI ks} {vs : List Value} {fps : Nat → Blks} {i : Nat} {v : Value}, ArgsR F w ks d vs fps → vs[i]? = some v → svR F w st V (fps i) v ((initS ks d).getD i .un)
  | [], _, vs, _, i, v, h, hv => by simp only [ArgsR] at h; subst h; simp at hv
  | .val t m :: ks, d, vs, fps, i, v, ⟨v0, vs', h1, h2, h3, h4, h5⟩, hv => by
    subst h1
    cases i with
    | zero =>
      simp only [List.getElem?_cons_zero, Option.some.injEq] at hv
      subst hv
      exact ⟨fun _ => h2, h4⟩
    | succ i =>
      simp only [List.getElem?_cons_succ] at hv
      have := args_sv (st := st) (V := V) (i := i) h5 hv
      simpa [initS] using this
  | .fn f :: ks, d, vs, fps, i, v, ⟨v0, vs', h1, h2, h5⟩, hv => by
    subst h1
    cases i with
    | zero =>
      simp only [List.getElem?_cons_zero, Option.some.injEq] at hv
      subst hv
      exact ⟨[], h2, rfl, fun k q hq => by simp at hq⟩
    | succ i =>
      simp only [List.getElem?_cons_succ] at hv
      have := args_sv (st := st) (V := V) (i := i) h5 hv
      simpa [initS] using this
  | .ref _ _ _ :: _, _, _, _, _, _, h, _ => h.elim

theorem res_get {F : Blks} {w : World} : ∀ {ks : List (Ty × Md)} {d : DI (pks ks)} {vs : List Value} {fps : Nat → Blks}, ArgsR F w (pks ks) d vs fps → vs.length = (resV ks (toDR ks d)).length ∧
    ∀ {k : Nat} {t : Ty} {m : Md} {x : t.I}, (resV ks (toDR ks d))[k]? = some (.v t m x) → ∃ u, vs[k]? = some u ∧ (m ≠ .j → isV t u) ∧ rep F w t m x (cv u) (fps k)
  | [], _, vs, fps, h => by
    simp only [pks, ArgsR] at h
    subst h
    exact ⟨rfl, fun h => by simp [resV] at h⟩
  | q :: ks, d, vs, fps, h => by
    obtain ⟨v, vs', rfl, h2, h3, h4, h5⟩ := h
    obtain ⟨r1, r2⟩ := res_get h5
    refine ⟨by simp [resV, toDR, r1], fun {k t m x} hk => ?_⟩
    cases k with
    | zero =>
      simp only [resV, List.getElem?_cons_zero, Option.some.injEq, toDR] at hk
      cases hk
      exact ⟨v, rfl, fun _ => h2, h4⟩
    | succ k =>
      simp only [resV, List.getElem?_cons_succ, toDR] at hk
      obtain ⟨u, k1, k2, k3⟩ := r2 hk
      exact ⟨u, by simpa using k1, k2, k3⟩

def resVal : List Value → Value
  | [v] => v
  | vs => .tuple vs.toArray

theorem res_all {F : Blks} {w : World} {ks : List (Ty × Md)} {d : DI (pks ks)} {vs : List Value} {fps : Nat → Blks} (hd : Disj fps) (h : ArgsR F w (pks ks) d vs fps) : ResR F w (resVal vs) (fun b => ∃ i, fps i b) (resS ks (toDR ks d)) := by
  obtain ⟨h1, h2⟩ := res_get h
  have hlen : vs.length = ks.length := by
    rw [args_len h]
    clear h h1 h2 d
    induction ks with
    | nil => rfl
    | cons q ks ih => simp [pks, ih]
  have htup : ResR F w (.tuple vs.toArray) (fun b => ∃ i, fps i b) (.tup (resV ks (toDR ks d))) :=
    ⟨vs, rfl, h1, fps, hd, fun k b hb => ⟨k, hb⟩, fun k t m x hk => h2 hk⟩
  rcases ks with _ | ⟨q, _ | ⟨q', ks⟩⟩
  · obtain rfl : vs = [] := List.eq_nil_of_length_eq_zero hlen
    exact htup
  · rcases vs with _ | ⟨v, _ | ⟨v', vs⟩⟩
    · simp at hlen
    · obtain ⟨u, k1, k2, k3⟩ := h2 (k := 0) rfl
      simp only [List.getElem?_cons_zero, Option.some.injEq] at k1
      subst k1
      exact ⟨k2, rep_fp (fun b hb => ⟨0, hb⟩) k3⟩
    · simp at hlen
  · rcases vs with _ | ⟨v, _ | ⟨v', vs⟩⟩
    · simp at hlen
    · simp at hlen
    · exact htup


theorem run_vals {P : Program} {w : World} {tmps : Array Value} {f : ResultVar → Sem Value} (hf : ∀ t, (f (.tmp t)).run P w = .ok (tmps.getD t undef) w) : ∀ {rs : List Nat}, ((rs.map ResultVar.tmp).mapM f).run P w = .ok (rs.map fun t => tmps.getD t undef) w
  | [] => rfl
  | r :: rs => by
    simp only [List.map_cons, List.mapM_cons, Sem.run_bind, hf, Sem.run_pure, Result.andThen_ok, run_vals hf]

theorem run_results {P : Program} {fn : Func} {w : World} {tmps : Array Value} {rs : List Nat} (h : fn.results = (rs.map ResultVar.tmp).toArray) :
    (results fn tmps).run P w = .ok (resVal (rs.map (fun t => tmps.getD t undef))) w := by
  unfold results
  rw [h]
  simp only [Array.mapM_eq_mapM_toList, Sem.run_bind, Sem.run_map]
  rw [run_vals (tmps := tmps) (fun t => rfl)]
  simp only [Result.andThen_ok, Sem.run_pure]
  rcases rs with _ | ⟨r, _ | ⟨r', rs⟩⟩
  · rfl
  · rfl
  · simp [resVal]

section
variable {P : Program} {env : Env}

/-- A FUNCTION IS WHAT THE CODE COMPUTES -/
theorem holds_of {f : FuncId} {fn : Func} {code : Code} {c : CSpec} {rs : List Nat} {lp : Loops} (hm : P.follows .mixedOrders = true) (hE : EnvTy P env) (hF : EnvFn P env) (hf : P.funcs[f]? = some fn) (hname : (fn.name == "runtime.NumGoroutine") = false) (hb : fn.body = some code) (hr : fn.results = (rs.map ResultVar.tmp).toArray)
    (hn : env.n = fn.ntmps) (hlen : Nat.ble c.ins.length fn.ntmps = true) (hL : LoopsOk env lp code) (b0 : DB c.ins)
    (hev : ∀ (d : DI c.ins) (R : Type) (K : DR c.outs → DB c.ins → Option R) (res : R), c.fn d K = some res → evC env lp code (St.args (initS c.ins d)) (retK env c.outs rs fun r => K r b0) = some res) : Holds P f c := by
  refine ⟨⟨fn, code, hf, hname, hb⟩, ?_⟩
  intro F w d vs fps R K res hFs hd hfp hargs hcall
  have hvl := args_len hargs
  have hle := Nat.le_of_ble_eq_true hlen
  refine calls_of_wp hf hb ?_
  let e : Entry := ⟨w, fun b => ∃ i, fps i b, F⟩
  let tm : Array Value := vs.toArray ++ Array.replicate (fn.ntmps - vs.toArray.size) undef
  have htm : ∀ i v, vs[i]? = some v → tm.getD i undef = v := by
    intro i v hv
    have hi : i < vs.length := (List.getElem?_eq_some_iff.1 hv).1
    simp only [tm, Array.getD_eq_getD_getElem?]
    rw [Array.getElem?_append_left (by simpa using hi)]
    simp [hv]
  have hA0 : AR env { tmps := tm, defers := [] } (fun i => tm.getD i undef) := ⟨by simp only [tm, Array.size_append, List.size_toArray, Array.size_replicate]; omega, fun _ _ => rfl, rfl⟩
  have hS0 : SR e F w (St.args (initS c.ins d)) (fun i => tm.getD i undef) (fun i b => i < vs.length ∧ fps i b) none' := by
    refine ⟨fun i => ?_, ⟨fun i j hij b hb hb' => hd.disj i j hij b hb.2 hb'.2⟩, fun i b hb => (hfp i b hb.2).1, fun i b hb => (hfp i b hb.2).2, hFs, fun _ _ _ hb => hb.elim, fun _ hb => hb.elim, fun _ hb => hb.elim, Grew.refl _, fun _ _ _ => rfl, fun i b hb => .inl ⟨i, hb.2⟩, fun _ hb => hb.elim, fun _ hb => hb, fun _ hb => .inl hb⟩
    by_cases hi : i < vs.length
    · have hv : vs[i]? = some vs[i] := List.getElem?_eq_getElem hi
      have := args_sv (st := St.args (initS c.ins d)) (V := fun i => tm.getD i undef) hargs hv
      show svR F w _ _ _ (tm.getD i undef) ((initS c.ins d).getD i .un)
      rw [htm i _ hv]
      have hfi : ∀ b, fps i b → i < vs.length ∧ fps i b := fun b hb => ⟨hi, hb⟩
      cases hsi : (initS c.ins d).getD i .un with
      | v t m x => rw [hsi] at this; exact ⟨this.1, rep_fp hfi this.2⟩
      | tup l =>
        rw [hsi] at this
        obtain ⟨vs', e1, e2, fs, e3, e4, e5⟩ := this
        exact ⟨vs', e1, e2, fs, e3, fun k b hb => hfi b (e4 k b hb), e5⟩
      | al r q => rw [hsi] at this; exact this
      | lz r q => rw [hsi] at this; exact this
      | fn f caps => rw [hsi] at this; exact this
      | nil => rw [hsi] at this; exact this
      | un => trivial
    · have : (initS c.ins d).getD i .un = .un := by
        have : (initS c.ins d).length ≤ i := by rw [initS_len, ← hvl]; omega
        simp [List.getD, this]
      show svR F w _ _ _ _ ((initS c.ins d).getD i .un)
      rw [this]
      trivial
  refine evC_sound hm hE hF (e := e) hL ?_ hS0 hA0 (hev d R K res hcall)
  intro x F1 w1 st1 V1 fp1 a1 hS hA h
  have key : (gather env false (pks c.outs) (rs.map Operand.tmp) [] fun d _ _ => .ret (toDR c.outs d)).run st1 (fun r _ => K r b0) = some res → a1.defers = [] ∧ ∃ v, (results fn a1.tmps).run P w1 = .ok v w1 ∧ ∃ v' ro rb, ∃ F' fo : Blks, Ending.returned v = .returned v' ∧ K ro rb = some res ∧ (∀ b, F b → F' b) ∧ Grew w w1 ∧ (∀ b, b < w.heap.size → (∀ i, ¬ fps i b) → Same w w1 b) ∧
      ResR F' w1 v' fo (resS c.outs ro) ∧ (∀ b, fo b → ¬ F' b ∧ b < w1.heap.size ∧ ((∃ i, fps i b) ∨ w.heap.size ≤ b)) ∧ (∀ b, F' b → b < w1.heap.size ∧ (F b ∨ (∃ i, fps i b) ∨ w.heap.size ≤ b)) := by
    intro h
    obtain ⟨st', fp', fl', F', d', ms, bs, fps', k1, k2, k3, k4, k5, k6, k7, k8, k9⟩ := gather_inv hA hS h
    simp only [RM.run] at k1
    refine ⟨hA.defers, _, run_results hr, _, toDR c.outs d', b0, F', fun b => ∃ i, fps' i b, rfl, k1, fun b hb => k2.g5 b hb, k2.g1, fun b hb hno => k2.g2 b hb (fun hc => by obtain ⟨i, hc⟩ := hc; exact hno i hc), ?_, fun b hb => ?_, fun b hb => ⟨k2.inF b hb, k2.g6 b hb⟩⟩
    · have hbs := k8 rfl
      subst hbs
      have h9 : ArgsR F' w1 (pks c.outs) d' ((rs.map Operand.tmp).map a1.eval) fps' := k9.mono (fun b hb => by
        rcases hb with hb | ⟨r, hr, _⟩
        · exact hb
        · cases hr)
      have := res_all k5 h9
      have e1 : (rs.map Operand.tmp).map a1.eval = rs.map (fun t => a1.tmps.getD t undef) := by
        rw [List.map_map]; rfl
      rw [e1] at this
      exact this
    · obtain ⟨i, hb⟩ := hb
      exact ⟨k2.flF b (k6 i b hb).1, k2.flH b (k6 i b hb).1, k2.g4 b (k6 i b hb).1⟩
  cases x with
  | exit i => cases h
  | normal =>
    obtain ⟨h1, v, h2, v', ro, rb, F', fo, h3, h4⟩ := key h
    exact ⟨h1, v, h2, v', ro, rb, F', fo, h3, h4⟩
  | ret =>
    obtain ⟨h1, v, h2, v', ro, rb, F', fo, h3, h4⟩ := key h
    exact ⟨h1, v, h2, v', ro, rb, F', fo, h3, h4⟩

end
end Go.Trm
namespace Go.Trm

/-- the bodies of all loops -/
def loopsL : Code → List Code
  | .seq a b => loopsL a ++ loopsL b
  | .cond _ a b => loopsL a ++ loopsL b
  | .block _ c => loopsL c
  | .scope c => loopsL c
  | .loop c => c :: loopsL c
  | _ => []

def LoopOk (env : Env) (lp : Loops) (c : Code) : Prop := ∀ i, firstId c = some i → ∀ R st K r, lp i R st K = some r → ∃ hd out n, lrounds env lp c hd out n st K = some r

theorem loopsOk_of {env : Env} {lp : Loops} : ∀ {code : Code}, (∀ c ∈ loopsL code, LoopOk env lp c) → LoopsOk env lp code := by
  intro code
  induction code with
  | seq a b iha ihb => intro h; exact ⟨iha fun c hc => h c (List.mem_append.2 (.inl hc)), ihb fun c hc => h c (List.mem_append.2 (.inr hc))⟩
  | cond x a b iha ihb => intro h; exact ⟨iha fun c hc => h c (List.mem_append.2 (.inl hc)), ihb fun c hc => h c (List.mem_append.2 (.inr hc))⟩
  | block i c ih => intro h; exact ih h
  | scope c ih => intro h; exact ih h
  | loop c ih => intro h; exact ⟨h c List.mem_cons_self, ih fun c' hc => h c' (List.mem_cons_of_mem _ hc)⟩
  | _ => intro h; trivial

theorem loopsOk_none {env : Env} {lp : Loops} {code : Code} (h : loopsL code = []) : LoopsOk env lp code := loopsOk_of fun c hc => by rw [h] at hc; cases hc

end Go.Trm
