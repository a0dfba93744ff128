import Derived.Test.YthidebepdpkgkaaTrmFn
set_option linter.unusedVariables false
set_option linter.unusedSimpArgs false
namespace Go.Trm

/-- a loop's rounds, as plain text: 'B' is one round -/
def loopN {X R : Type} (B : (X → Option R) → X → Option R) : Nat → X → Option R
  | 0, _ => none
  | n + 1, x => B (loopN B n) x

theorem fuelEx : ∃ n : Nat, n = 18446744073709551616 := ⟨_, rfl⟩
/-- as many rounds as any loop may need; the kernel doesn't unfold it -/
noncomputable def fuel64 : Nat := Classical.choose fuelEx
theorem fuel64_eq : fuel64 = 18446744073709551616 := Classical.choose_spec fuelEx

section
variable {R : Type} {env : Env} {lp : Loops} {c : Code} {hd : List Nat} {out : Ex → List Nat}

theorem ofList_get {l : List Nat} {st : St} : ∀ {i}, (St.ofList (l.map fun s => (s, st s))) i = if i ∈ l then st i else .un := by
  intro i
  induction l with
  | nil => rfl
  | cons s l ih =>
    simp only [List.map_cons, St.ofList]
    cases hb : Nat.beq i s with
    | true => obtain rfl := Nat.eq_of_beq_eq_true hb; simp
    | false =>
      have : i ≠ s := fun hc => by subst hc; rw [Nat.beq_refl] at hb; cases hb
      simp only [ih, List.mem_cons, this, false_or]

theorem only_only {l : List Nat} {st : St} : (st.only l).only l = st.only l := by
  funext i
  simp only [St.only, ofList_get]
  split
  · rfl
  · rfl

theorem rounds_only {n : Nat} {st : St} {K : Ex → St → Option R} : rounds (fun st K => evC env lp c (st.only hd) K) n (st.only hd) K = rounds (fun st K => evC env lp c (st.only hd) K) n st K := by
  cases n with
  | zero => rfl
  | succ n => simp only [rounds, only_only]

/-- A LOOP IS ITS ROUNDS -/
theorem loop_eq {X : Type} {S : X → St} {K : Ex → St → Option R} {B : (X → Option R) → X → Option R}
    (step : ∀ (rec : St → Option R) (x : X), evC env lp c (S x) (fun e st => match e with | .normal => rec (st.only hd) | e => K e (st.only (out e))) = B (fun x => rec (S x)) x) (hS : ∀ x, (S x).only hd = S x) :
    ∀ n x, lrounds env lp c hd out n (S x) K = loopN B n x := by
  intro n
  induction n with
  | zero => intro x; rfl
  | succ n ih =>
    intro x
    have h := step (fun st => lrounds env lp c hd out n st K) x
    rw [show (fun x => lrounds env lp c hd out n (S x) K) = loopN B n from funext ih] at h
    show _ = B (loopN B n) x
    rw [← h]
    unfold lrounds
    simp only [rounds, hS]
    congr 1
    funext e st
    cases e with
    | normal => simp only [rounds_only]
    | exit i => rfl
    | ret => rfl

/-- what is said of a loop holds, if it begins so -/
theorem loopOk_of {X : Type} {S : X → St} (B : (R : Type) → (Ex → St → Option R) → (X → Option R) → X → Option R) (fuel : X → Nat) (i : Nat)
    (step : ∀ (R : Type) (K : Ex → St → Option R) (rec : St → Option R) (x : X), evC env lp c (S x) (fun e st => match e with | .normal => rec (st.only hd) | e => K e (st.only (out e))) = B R K (fun x => rec (S x)) x) (hS : ∀ x, (S x).only hd = S x)
    (hi : firstId c = some i) (hlp : ∀ R st K r, lp i R st K = some r → ∃ x, st.only hd = S x ∧ loopN (B R K) (fuel x) x = some r) : LoopOk env lp c := by
  intro j hj R st K r h
  rw [hi] at hj
  cases hj
  obtain ⟨x, h1, h2⟩ := hlp R st K r h
  refine ⟨hd, out, fuel x, ?_⟩
  have := loop_eq (out := out) (step R K) hS (fuel x) x
  rw [← this, ← h1] at h2
  unfold lrounds at h2 ⊢
  rw [← rounds_only]
  exact h2

end
end Go.Trm
