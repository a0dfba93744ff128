import Derived.Test.YthidebepdpkgkaaTrmOps16
set_option linter.unusedVariables false
set_option linter.unusedSimpArgs false
namespace Go.Trm

section
variable {P : Program} {env : Env} {e : Entry} {F : Blks} {w : World} {st : St} {V : Nat → Value} {fp : Nat → Blks} {fl : Blks} {a : Act} {R : Type} {res : R} {Q : Exit → Act → World → Prop}

theorem put_eq {st : St} {d : Nat} {v : SV} (h : st d = v) : st.put d v = st := by
  funext i
  by_cases hi : i = d
  · subst hi; rw [put_same, h]
  · rw [put_other hi]

theorem AR.put' {d : Nat} {v : Value} (hA : AR env a V) : AR env (a.put (some d) v) (updV V d v) := by
  refine ⟨by simp [Act.put, hA.size], fun i hi => ?_, hA.defers, hA.lim⟩
  simp only [Act.put, updV]
  by_cases hid : i = d
  · subst hid
    have : i < a.tmps.size := by rw [hA.size]; exact hi
    simp [Array.getD, this]
  · rw [if_neg hid, ← hA.tmps i hi]
    simp only [Array.getD_eq_getD_getElem?]
    rw [Array.getElem?_setIfInBounds_ne (Ne.symm hid)]

theorem skip_ok {dst : Option Nat} (hd : ∀ d, dst = some d → d < env.n) (hS : SR e F w st V fp none') (hA : AR env a V) : ∃ V' fp', SR e F w (skipS st dst) V' fp' none' ∧ AR env (a.put dst undef) V' := by
  cases dst with
  | none => exact ⟨V, fp, hS, hA⟩
  | some d =>
    exact ⟨_, _, hS.fillO (fq := none') (fl' := none') (Nat.lt_of_lt_of_le (hd _ rfl) hA.lim) rfl ⟨[], rfl, rfl, fun _ => none', ⟨fun _ _ _ _ hb => hb.elim⟩, fun _ _ hb => hb.elim, fun k t m x hk => by simp at hk⟩ (fun _ hb => hb.elim) (fun _ hb => hb.elim), hA.put'⟩

theorem tmps_get {d : Nat} (hA : AR env a V) (hd : d < env.n) : a.tmps[d]? = some (V d) := by
  have h1 : d < a.tmps.size := by rw [hA.size]; exact hd
  have h2 := hA.tmps d hd
  rw [Array.getD, dif_pos h1] at h2
  rw [Array.getElem?_eq_getElem h1]
  exact congrArg some h2

/-- what a guard says -/
theorem evG_inv {ops : Array Oper} {o : Oper} {K : St → Option R} (hS : SR e F w st V fp none') (hA : AR env a V) (h : evG env ops.toList o st K = some res) :
    (Region.wanted o (yielded ops a.tmps) = true ∧ (evOp env o).run st (fun _ st => K st) = some res) ∨
    (Region.wanted o (yielded ops a.tmps) = false ∧ K (skipS st o.dst) = some res ∧ ∀ d, o.dst = some d → d < env.n) := by
  unfold evG at h
  split at h
  · rename_i hg
    exact .inl ⟨by simp [Region.wanted, hg], h⟩
  · rename_i j want hg
    split at h
    · cases h
    · rename_i d hj
      have hjd : (ops[j]?).bind (·.dst) = some d := by
        rw [← Array.getElem?_toList]
        split at hj
        · rename_i oj ho; rw [ho]; exact hj
        · cases hj
      split at h
      · cases h
      · rename_i hdn
        have hyd : yielded ops a.tmps j = match V d with | .bool b => some b | _ => none := by
          unfold yielded
          rw [hjd, Option.bind_some, tmps_get hA (blt_lt hdn)]
          split
          · rename_i heq; simp only [Option.some.injEq] at heq; rw [heq]
          · rename_i hne
            split
            · rename_i b hb; exact absurd (by rw [hb]) (hne b)
            · rfl
        have hsv := hS.sv d
        split at h
        · rename_i b hst
          rw [hst] at hsv
          have hv : V d = .bool b := rep_bool (m := .s) (hsv.1 nofun) nofun hsv.2
          rw [hv] at hyd
          simp only at hyd
          cases b <;> cases want <;> simp only [cond_true, cond_false, put_eq hst] at h
          · exact .inl ⟨by simp [Region.wanted, hg, hyd], h⟩
          · exact .inr ⟨by simp [Region.wanted, hg, hyd], skipK_inv h⟩
          · exact .inr ⟨by simp [Region.wanted, hg, hyd], skipK_inv h⟩
          · exact .inl ⟨by simp [Region.wanted, hg, hyd], h⟩
        · rename_i hst
          rw [hst] at hsv
          obtain ⟨vs, e1, e2, _⟩ := hsv
          have hvs : vs = [] := List.eq_nil_of_length_eq_zero e2
          have hv : V d = .tuple #[] := by rw [e1, hvs]
          rw [hv] at hyd
          exact .inr ⟨by simp [Region.wanted, hg, hyd], skipK_inv h⟩
        · cases h

end
end Go.Trm
