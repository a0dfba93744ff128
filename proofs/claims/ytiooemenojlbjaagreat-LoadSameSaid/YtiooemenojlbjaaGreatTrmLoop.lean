import Derived.Test.YtiooemenojlbjaaGreatTrmFn
set_option linter.unusedVariables false
set_option linter.unusedSimpArgs false
namespace Go.Trm

/-- code that is joined, with the number of the first region behind it -/
def joinsL (env : Env) : Code → List (Code × Nat)
  | .seq a b => joinsL env a ++ (joinsL env b ++ (match joinAt env b with | some i => [(a, i)] | none => []))
  | .cond _ a b => joinsL env a ++ joinsL env b
  | .block _ c => joinsL env c
  | .scope c => joinsL env c
  | .loop c => joinsL env c
  | _ => []

theorem loopsOk_of {env : Env} {lp : Loops} {inl : Inl} : ∀ {code : Code}, (∀ c ∈ loopsL code, LoopOk env lp inl c) → (∀ q ∈ joinsL env code, JoinOk env lp inl q.1 q.2) → LoopsOk env lp inl code := by
  intro code
  induction code with
  | seq a b iha ihb =>
    intro h g
    refine ⟨iha (fun c hc => h c (List.mem_append.2 (.inl hc))) (fun q hq => g q (List.mem_append.2 (.inl hq))), ihb (fun c hc => h c (List.mem_append.2 (.inr hc))) (fun q hq => g q (List.mem_append.2 (.inr (List.mem_append.2 (.inl hq))))), fun i hi => ?_⟩
    exact g (a, i) (List.mem_append.2 (.inr (List.mem_append.2 (.inr (by rw [hi]; exact List.mem_cons_self)))))
  | cond x a b iha ihb => intro h g; exact ⟨iha (fun c hc => h c (List.mem_append.2 (.inl hc))) (fun q hq => g q (List.mem_append.2 (.inl hq))), ihb (fun c hc => h c (List.mem_append.2 (.inr hc))) (fun q hq => g q (List.mem_append.2 (.inr hq)))⟩
  | block i c ih => intro h g; exact ih h g
  | scope c ih => intro h g; exact ih h g
  | loop c ih => intro h g; exact ⟨h c List.mem_cons_self, ih (fun c' hc => h c' (List.mem_cons_of_mem _ hc)) g⟩
  | _ => intro h g; trivial

theorem loopsOk_none {env : Env} {lp : Loops} {inl : Inl} {code : Code} (h : loopsL code = []) (g : joinsL env code = []) : LoopsOk env lp inl code :=
  loopsOk_of (fun c hc => by rw [h] at hc; cases hc) (fun q hq => by rw [g] at hq; cases hq)

/-- a loop that is not come to -/
theorem loopOk_gone {env : Env} {lp : Loops} {inl : Inl} {c : Code} {i : Nat} (h : firstId c = some i) (g : ∀ (R : Type) (st : St) (K : Ex → St → Option R), lp false i R st K = none) : LoopOk env lp inl c :=
  fun j hj R st K r hr => by
    rw [h] at hj; cases hj; rw [g] at hr; cases hr
theorem loopsOk_lp0 {env : Env} {lp : Loops} {inl : Inl} (g : ∀ (z : Bool) (i : Nat) (R : Type) (st : St) (K : Ex → St → Option R), lp z i R st K = none) (c : Code) : LoopsOk env lp inl c :=
  loopsOk_of (fun c _ => fun j _ R st K r hr => by rw [g] at hr; cases hr) (fun q _ => fun R st K r hr => by rw [g] at hr; cases hr)

/-- a loop's rounds, as plain text: 'B' is one round -/
def loopN {X R : Type} (B : (X → Option R) → X → Option R) : Nat → X → Option R
  | 0, _ => none
  | n + 1, x => B (loopN B n) x

theorem fuelEx : ∃ n : Nat, n = 18446744073709551616 := ⟨_, rfl⟩
/-- as many rounds as any loop may need; the kernel doesn't unfold it -/
noncomputable def fuel64 : Nat := Classical.choose fuelEx
theorem fuel64_eq : fuel64 = 18446744073709551616 := Classical.choose_spec fuelEx

theorem ofList_get {l : List Nat} {st : St} : ∀ {i}, (St.ofList (l.map fun s => (s, st s))) i = if i ∈ l then st i else .un := by
  intro i
  induction l with
  | nil => rfl
  | cons s l ih =>
    simp only [List.map_cons, St.ofList]
    cases hb : Nat.beq i s with
    | true => obtain rfl := Nat.eq_of_beq_eq_true hb; simp
    | false =>
      have : i ≠ s := fun hc => by subst hc; rw [Nat.beq_refl] at hb; cases hb
      simp only [ih, List.mem_cons, this, false_or]

theorem only_only {l : List Nat} {st : St} : (st.only l).only l = st.only l := by
  funext i
  simp only [St.only, ofList_get]
  split
  · rfl
  · rfl

theorem frzAll_det {R : Type} {T : Unit → St → Option R} {r : R} : ∀ {l : List (Nat × Bool)} {st : St}, (frzAll l).run Cx.no st T = some r → ∃ st', (∀ (R' : Type) (T' : Unit → St → Option R'), (frzAll l).run Cx.no st T' = T' () st') ∧ T () st' = some r
  | [], st, h => ⟨st, fun _ _ => rfl, h⟩
  | (s, false) :: l, st, h => by
    obtain ⟨st', h1, h2⟩ := frzAll_det (l := l) (st := st) h
    exact ⟨st', h1, h2⟩
  | (s, true) :: l, st, h => by
    have hfz : ∀ {st : St}, (freeze (some (s, [])) (frzAll l)).run Cx.no st T = some r → ∃ st', (∀ (R' : Type) (T' : Unit → St → Option R'), (freeze (some (s, [])) (frzAll l)).run Cx.no st T' = T' () st') ∧ T () st' = some r := by
      intro st h
      simp only [freeze, RM.run] at h ⊢
      cases hs : st s with
      | v t m x =>
        simp only [hs] at h ⊢
        cases hg : getP t m x [] with
        | none => simp only [hg] at h; simp [RM.run] at h
        | some q =>
          obtain ⟨u, mo, y⟩ := q
          simp only [hg] at h ⊢
          split at h
          · rename_i m' x' hn hp
            simp only [RM.run] at h
            simp only [hn, hp, RM.run]
            obtain ⟨st', h1, h2⟩ := frzAll_det (l := l) h
            exact ⟨st', h1, h2⟩
          · simp [RM.run] at h
      | _ => simp only [hs] at h; simp [RM.run] at h
    unfold frzAll at h ⊢
    simp only [RM.run] at h ⊢
    cases hs : st s with
    | v t m x =>
      simp only [hs] at h ⊢
      cases m with
      | s =>
        obtain ⟨st', h1, h2⟩ := frzAll_det (l := l) (st := st) h
        exact ⟨st', h1, h2⟩
      | j => simp [RM.run] at h
      | o m => exact hfz h
      | p m1 m2 => exact hfz h
    | _ =>
      simp only [hs] at h ⊢
      obtain ⟨st', h1, h2⟩ := frzAll_det (l := l) (st := st) h
      exact ⟨st', h1, h2⟩

theorem coerce_det {R : Type} {T : St → Option R} {r : R} {l : List (Nat × Bool)} {st : St} (h : coerce l st T = some r) : ∃ st', (∀ (R' : Type) (T' : St → Option R'), coerce l st T' = T' (St.only st' (l.map Prod.fst))) ∧ T (St.only st' (l.map Prod.fst)) = some r := by
  obtain ⟨st', h1, h2⟩ := frzAll_det (l := l) (st := st) h
  exact ⟨st', fun R' T' => h1 R' _, h2⟩

section
variable {env : Env} {lp : Loops} {inl : Inl} {c : Code} {hd : List (Nat × Bool)} {out : Ex → List (Nat × Bool)}

/-- A LOOP IS ITS ROUNDS -/
theorem loop_eq {R X : Type} {S : X → St} {K : Ex → St → Option R} {B : (X → Option R) → X → Option R}
    (step : ∀ (rec : St → Option R) (x : X), evC env lp inl c (S x) (fun e st => match e with | .normal => coerce hd st rec | e => coerce (out e) st (K e)) = B (fun x => rec (S x)) x) :
    ∀ n x, lrounds env lp inl c hd out n (S x) K = loopN B n x := by
  intro n
  induction n with
  | zero => intro x; rfl
  | succ n ih =>
    intro x
    have h := step (fun st => lrounds env lp inl c hd out n st K) x
    rw [show (fun x => lrounds env lp inl c hd out n (S x) K) = loopN B n from funext ih] at h
    exact h

/-- what is said of a loop holds, if it begins so -/
theorem loopOk_of {X : Type} {S : X → St} (B : (R : Type) → (Ex → St → Option R) → (X → Option R) → X → Option R) (fuel : X → Nat) (i : Nat)
    (step : ∀ (R : Type) (K : Ex → St → Option R) (rec : St → Option R) (x : X), evC env lp inl c (S x) (fun e st => match e with | .normal => coerce hd st rec | e => coerce (out e) st (K e)) = B R K (fun x => rec (S x)) x)
    (hi : firstId c = some i) (g : (R : Type) → (Ex → St → Option R) → St → Option R) (hlp : ∀ R st K, lp false i R st K = coerce hd st (g R K)) (hg : ∀ R st K r, g R K (St.only st (hd.map Prod.fst)) = some r → ∃ x, St.only st (hd.map Prod.fst) = S x ∧ loopN (B R K) (fuel x) x = some r) : LoopOk env lp inl c := by
  intro j hj R st K r h
  rw [hi] at hj
  cases hj
  rw [hlp] at h
  obtain ⟨st', h1, h2⟩ := coerce_det h
  obtain ⟨x, h3, h4⟩ := hg R st' K r h2
  refine ⟨hd, out, fuel x, ?_⟩
  rw [h1, h3, loop_eq (step R K) (fuel x) x]
  exact h4

/-- what is said of joined code holds, if it begins so -/
theorem joinOk_of {X : Type} {S : X → St} (J : (R : Type) → (Ex → St → Option R) → X → Option R) (i : Nat)
    (step : ∀ (R : Type) (K : Ex → St → Option R) (x : X), evC env lp inl c (S x) (fun e st => coerce (out e) st (K e)) = J R K x)
    (g : (R : Type) → (Ex → St → Option R) → St → Option R) (hlp : ∀ R st K, lp true i R st K = coerce hd st (g R K)) (hg : ∀ R st K r, g R K (St.only st (hd.map Prod.fst)) = some r → ∃ x, St.only st (hd.map Prod.fst) = S x ∧ J R K x = some r) : JoinOk env lp inl c i := by
  intro R st K r h
  rw [hlp] at h
  obtain ⟨st', h1, h2⟩ := coerce_det h
  obtain ⟨x, h3, h4⟩ := hg R st' K r h2
  refine ⟨hd, out, ?_⟩
  rw [h1, h3, step R K x]
  exact h4

end
end Go.Trm
