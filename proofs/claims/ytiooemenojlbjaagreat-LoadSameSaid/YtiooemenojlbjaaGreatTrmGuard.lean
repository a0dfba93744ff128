import Derived.Test.YtiooemenojlbjaaGreatTrmOps16
set_option linter.unusedVariables false
set_option linter.unusedSimpArgs false
namespace Go.Trm

section
variable {P : Program} {env : Env} {e : Entry} {F : Blks} {w : World} {st : St} {V : Nat → Value} {fp : Nat → Blks} {fl : Blks} {a : Act} {R : Type} {res : R} {C : Cx R} {gh : Nat → Value} {Q : Exit → Act → World → Prop}

theorem put_eq {st : St} {d : Nat} {v : SV} (h : st d = v) : st.put d v = st := by
  funext i
  by_cases hi : i = d
  · subst hi; rw [put_same, h]
  · rw [put_other hi]

theorem skip_ok {dst : Option Nat} (hd : ∀ d, dst = some d → d < env.n) (hS : SR e F w st V fp none') (hA : AR env gh a V) : ∃ V' fp', SR e F w (skipS env st dst) V' fp' none' ∧ AR env gh (a.put dst undef) V' := by
  cases dst with
  | none => exact ⟨V, fp, hS, hA⟩
  | some d =>
    exact ⟨_, _, hS.fillO (fq := none') (fl' := none') (hA.gd (hd _ rfl)) rfl ⟨[], rfl, rfl, fun _ => none', ⟨fun _ _ _ _ hb => hb.elim⟩, fun _ _ hb => hb.elim, fun k t m x hk => by simp at hk⟩ (fun _ hb => hb.elim) (fun _ hb => hb.elim), hA.put (hd _ rfl)⟩

theorem tmps_get {d : Nat} (hA : AR env gh a V) (hd : d < env.n) : a.tmps[d]? = some (V (env.b + d)) := by
  have h1 : d < a.tmps.size := by rw [hA.size]; exact hd
  have h2 := hA.tmps d hd
  rw [Array.getD, dif_pos h1] at h2
  rw [Array.getElem?_eq_getElem h1]
  exact congrArg some h2

/-- what a guard says -/
theorem evG_inv {ops : Array Oper} {o : Oper} {K : St → Option R} (hS : SR e F w st V fp none') (hA : AR env gh a V) (h : evG env C ops.toList o st K = some res) :
    (Region.wanted o (yielded ops a.tmps) = true ∧ (evOp env o).run C st (fun _ st => K st) = some res) ∨
    (Region.wanted o (yielded ops a.tmps) = false ∧ K (skipS env st o.dst) = some res ∧ ∀ d, o.dst = some d → d < env.n) := by
  unfold evG at h
  split at h
  · rename_i hg
    exact .inl ⟨by simp [Region.wanted, hg], h⟩
  · rename_i j want hg
    split at h
    · cases h
    · rename_i d hj
      have hjd : (ops[j]?).bind (·.dst) = some d := by
        rw [← Array.getElem?_toList]
        split at hj
        · rename_i oj ho; rw [ho]; exact hj
        · cases hj
      split at h
      · cases h
      · rename_i hdn
        have hyd : yielded ops a.tmps j = match V (env.b + d) with | .bool b => some b | _ => none := by
          unfold yielded
          rw [hjd, Option.bind_some, tmps_get hA (blt_lt hdn)]
          split
          · rename_i heq; simp only [Option.some.injEq] at heq; rw [heq]
          · rename_i hne
            split
            · rename_i b hb; exact absurd (by rw [hb]) (hne b)
            · rfl
        have hsv := hS.sv (env.b + d)
        split at h
        · rename_i b hst
          rw [hst] at hsv
          have hv : V (env.b + d) = .bool b := rep_bool (m := .s) (hsv.1 nofun) nofun hsv.2
          rw [hv] at hyd
          simp only at hyd
          cases b <;> cases want <;> simp only [cond_true, cond_false, put_eq hst] at h
          · exact .inl ⟨by simp [Region.wanted, hg, hyd], h⟩
          · exact .inr ⟨by simp [Region.wanted, hg, hyd], skipK_inv h⟩
          · exact .inr ⟨by simp [Region.wanted, hg, hyd], skipK_inv h⟩
          · exact .inl ⟨by simp [Region.wanted, hg, hyd], h⟩
        · rename_i hst
          rw [hst] at hsv
          obtain ⟨vs, e1, e2, _⟩ := hsv
          have hvs : vs = [] := List.eq_nil_of_length_eq_zero e2
          have hv : V (env.b + d) = .tuple #[] := by rw [e1, hvs]
          rw [hv] at hyd
          exact .inr ⟨by simp [Region.wanted, hg, hyd], skipK_inv h⟩
        · cases h

end
end Go.Trm
