import Derived.Test.YtiooemenojlbjaaGreatTrmOps13
set_option linter.unusedVariables false
set_option linter.unusedSimpArgs false
namespace Go.Trm

theorem rep_flat {F : Blks} {w : World} : ∀ {t : Ty} {m : Md} {x : t.I} {c : Cells} {fq : Blks}, t.flat = true → m.noJ = true → rep F w t m x c fq → rep F w t .s x c none' := by
  intro t
  induction t with
  | sl e t ih => intro m x c fq h; cases h
  | ptr e t ih => intro m x c fq h; cases h
  | pair a b iha ihb =>
    intro m x c fq h hm hr
    simp only [Ty.flat, Bool.and_eq_true] at h
    obtain ⟨fa, fb, h1, h2, h3, ra, rb⟩ := rep_pair hr
    have hm' : m.fst.noJ = true ∧ m.snd.noJ = true := by
      cases m <;> simp only [Md.noJ, Md.fst, Md.snd, Bool.and_eq_true, Bool.false_eq_true] at hm ⊢ <;> first | exact ⟨trivial, trivial⟩ | exact hm | exact ⟨hm, hm⟩
    simp only [rep, Md.fst, Md.snd]
    exact ⟨_, _, fun _ h => h, fun _ h => h, fun _ h => h.elim, iha h.1 hm'.1 ra, ihb h.2 hm'.2 rb⟩
  | arr n t ih =>
    intro m x c fq h hm hr
    have hm' : m.el.noJ = true := by
      cases m <;> first | exact hm | cases hm
    have hj' : m ≠ .j := by rintro rfl; simp [Md.noJ] at hm
    have key : List.length (x : List t.I) = n ∧ ∃ fs : Nat → Blks, ∀ i, i < n → rep F w t m.el (List.getD (x : List t.I) i t.dflt) (fun j => c (i * t.size + j)) (fs i) := by
      cases m with
      | j => exact absurd rfl hj'
      | _ => simp only [rep] at hr; obtain ⟨hn, fs, _, h2, r⟩ := hr; exact ⟨hn, fs, r⟩
    obtain ⟨hn, fs, r⟩ := key
    simp only [rep, Md.el]
    exact ⟨hn, fun _ _ => False, ⟨fun _ _ _ _ h => h.elim⟩, fun _ _ h => h.elim, fun i hi => ih h hm' (r i hi)⟩
  | _ => intro m x c fq h hm hr; cases m <;> simp only [rep] at hr ⊢ <;> first | exact hr | cases hm

section
variable {P : Program} {env : Env} {e : Entry} {F : Blks} {w : World} {st : St} {V : Nat → Value} {fp : Nat → Blks} {fl : Blks} {a : Act} {o : Oper} {R : Type} {K : Unit → St → Option R} {res : R} {C : Cx R} {gh : Nat → Value} {next : Act → World → Prop} {Q : Exit → Act → World → Prop}

theorem brings_sl {U : TypeId} {et : TypeId} {t : Ty} {mu m : Md} {y : List t.I} {val : Value} {fq : Blks} (hU : P.underlying U = some (.slice et)) (hv : isV (.sl et t) val) (hrep : rep F w (.sl et t) mu y (cv val) fq) (hnj : mu.noJ = true)
    (hel : ∀ (x : t.I) (c : Cells) (f : Blks), rep F w t mu.el x c f → rep F w t m x c f) : Brings P F w t m U val y fq := by
  have hval := sl_val hv
  have hnil : ∀ cap, cv val 0 = .slice none y.length cap → y = [] → Brings P F w t m U val y fq := by
    rintro cap h rfl
    refine ⟨[], ?_, fun _ => none', ⟨fun _ _ _ _ hb => hb.elim⟩, fun _ _ hb => hb.elim, fun i hi => by simp at hi⟩
    rw [hval, h]
    exact Src.ofNil w hU cap
  have hnil2 : ∀ A cap, cv val 0 = .slice (some A) y.length cap → y = [] → Brings P F w t m U val y fq := by
    rintro A cap h rfl
    refine ⟨[], ?_, fun _ => none', ⟨fun _ _ _ _ hb => hb.elim⟩, fun _ _ hb => hb.elim, fun i hi => by simp at hi⟩
    rw [hval, h]
    exact Src.ofSlice w hU A 0 cap [] (by simp) (fun j u hj => by simp at hj) (fun u hu => by simp at hu)
  have hsome : ∀ (b k cap : Nat) (wr : Bool) (fs : Nat → Blks), cv val 0 = .slice (some ⟨b, k, none⟩) y.length cap → (y.length * t.size = 0 ∨ holdsW w b (k + y.length * t.size) wr) → Disj fs → (∀ i b, fs i b → fq b) →
      (∀ i, i < y.length → rep F w t mu.el (y.getD i t.dflt) (rowW w b (k + i * t.size)) (fs i)) → Brings P F w t m U val y fq := by
    intro b k cap wr fs h hh hd hs hr
    have hnj' : mu.el.noJ = true := by cases mu <;> first | exact hnj | cases hnj
    refine ⟨rowL (rowW w b k) (y.length * t.size), ?_, fs, hd, hs, fun i hi => hel _ _ _ (rep_cells (fun j hj => ?_) (hr i hi))⟩
    · rw [hval, h]
      refine Src.ofSlice w hU _ _ _ _ rowL_len (fun j u hj => ?_) (fun u hu => ?_)
      · obtain ⟨hj', rfl⟩ := rowL_some hj
        rcases hh with hh | hh
        · omega
        · rw [addr_add, cell_row hh (by omega), ← rowW_at]
      · obtain ⟨j, hj⟩ := List.mem_iff_getElem?.1 hu
        obtain ⟨hj', rfl⟩ := rowL_some hj
        have hs0 : 0 < t.size := by
          rcases Nat.eq_zero_or_pos t.size with h0 | h0
          · rw [h0] at hj'; simp at hj'
          · exact h0
        have h1 : j / t.size < y.length := Nat.div_lt_of_lt_mul (by rwa [Nat.mul_comm])
        have h2 := rep_ones (hr _ h1) hnj' (j % t.size) (Nat.mod_lt _ hs0)
        rw [rowW_at, Nat.add_assoc, Nat.mul_comm, Nat.div_add_mod, ← rowW_at] at h2
        exact h2
    · rw [rowL_get (idx_lt hi hj), rowW_at w b k, rowW_at w b (k + i * t.size), Nat.add_assoc]
  cases mu with
  | j => cases hnj
  | p _ _ =>
    simp only [rep] at hrep
    obtain ⟨A, cap, q1, q2, q3, q4, q5⟩ := hrep
    cases A with
    | none => exact hnil cap q1 (List.eq_nil_of_length_eq_zero (by have := q4 rfl; omega))
    | some A => exact (q5 A rfl).2.elim
  | s =>
    simp only [rep] at hrep
    obtain ⟨A, cap, q1, q2, q3, q4, q5⟩ := hrep
    cases A with
    | none => exact hnil cap q1 (List.eq_nil_of_length_eq_zero (by have := q4 rfl; omega))
    | some A =>
      obtain ⟨hsp, q6, q7⟩ := q5 A rfl
      by_cases hc0 : cap = 0
      · exact hnil2 A cap q1 (List.eq_nil_of_length_eq_zero (by omega))
      replace hsp := hsp (by omega)
      obtain ⟨b, k, sp⟩ := A
      simp only at hsp
      subst hsp
      exact hsome b k cap false (fun _ => none') q1 (q6.imp id (·.2)) ⟨fun _ _ _ _ hb => hb.elim⟩ (fun _ _ hb => hb.elim) q7
  | o mm =>
    simp only [rep] at hrep
    obtain ⟨A, cap, q1, q2, q3, q4, q5⟩ := hrep
    cases A with
    | none => exact hnil cap q1 (List.eq_nil_of_length_eq_zero (by have := q4 rfl; omega))
    | some A =>
      obtain ⟨hsp, q6, q7, fs, q8, q9, q10⟩ := q5 A rfl
      by_cases hc0 : cap = 0
      · exact hnil2 A cap q1 (List.eq_nil_of_length_eq_zero (by omega))
      replace hsp := hsp (by omega)
      obtain ⟨b, k, sp⟩ := A
      simp only at hsp
      subst hsp
      refine hsome b k cap false fs q1 (.inr ?_) q8 (fun i b hb => (q9 i b hb).1) q10
      obtain ⟨cs, el, fz, z1, z2, _⟩ := q7
      have : y.length * t.size ≤ cap * t.size := Nat.mul_le_mul_right _ q2
      exact ⟨cs, el, fz, z1, by simp only at z2; omega, nofun⟩

theorem brings_str {U : TypeId} {m : Md} {y : List UInt8} (hU : P.underlying U = some .string) : Brings P F w (.int .u8) m U (.string ⟨y.toArray⟩) (nums y) none' := by
  have hs := Src.ofString (P := P) w hU ⟨y.toArray⟩
  rw [str_size] at hs
  have hl : (nums y).length = y.length := by simp [nums]
  rw [← hl] at hs
  refine ⟨byteCells ⟨y.toArray⟩, hs, fun _ => none', ⟨fun _ _ _ _ hb => hb.elim⟩, fun _ _ hb => hb.elim, fun i hi => ?_⟩
  have hi' : i < y.length := by rw [← hl]; exact hi
  have e1 : (byteCells ⟨y.toArray⟩).getD (i * Ty.size (.int .u8) + 0) undef = .int .u8 ((nums y).getD i (0 : Int)) := by
    simp [byteCells, nums, Ty.size, List.getD, hi']
  have : ((nums y).getD i (0 : Int)) = ((y.getD i 0).toNat : Int) := by simp [nums, List.getD, hi']
  have h4 : ((y.getD i (0 : UInt8)).toNat) < 256 := UInt8.toNat_lt _
  have e3 : IntKind.u8.min = 0 := by decide
  have e4 : IntKind.u8.max = 255 := by decide
  have h5 : IntKind.u8.has ((nums y).getD i (0 : Int)) := by
    rw [this]
    constructor
    · rw [e3]; omega
    · rw [e4]; omega
  cases m with
  | j => exact rep_j
  | _ => simp only [rep]; exact ⟨e1, h5⟩

theorem rdTail_inv {α : Type} {Kk : α → St → Option R} {U : TypeId} {z : Operand} {et : TypeId} {t : Ty} {m : Md} {k : List t.I → RM α} (hE : EnvTy P env) (hS : SR e F w st V fp fl) (hA : AR env gh a V) (hm : m.noJ = true) (h : (rdTail env U z et t m k).run C st Kk = some res) :
    ∃ y st' fp' fl' fq F', (k y).run C st' Kk = some res ∧ SR e F' w st' V fp' fl' ∧ (∀ b, F b → F' b) ∧ Brings P F' w t m U (a.eval z) y fq ∧ (∀ b, fq b → fl' b) ∧ (∀ b, fl b → fl' b) ∧ (∀ b, fq b → ¬ fl b) := by
  unfold rdTail at h
  obtain ⟨u, mu, y, src, h1, hd, _⟩ := rdV_inv hS hA h
  obtain ⟨hv, hmu, fq0, hrep, hfq⟩ := hd.rep hS
  cases u with
  | sl e' u =>
    dsimp only at h1
    split at h1
    · rename_i y' hT hc
      obtain ⟨eu, hy⟩ := castI_some hc
      cases eu
      simp only at hy
      subst hy
      have hU := (wt_sl (Env.is_ok hE hT)).1
      have hnone : ∀ {mm : Md}, (∀ (x : t.I) (c : Cells) (f : Blks), rep F w t mu.el x c f → rep F w t mm x c none') → mu.noJ = true → Brings P F w t mm U (a.eval z) y none' := by
        intro mm hel hnj
        obtain ⟨news, hsrc, fs, b1, b2, b3⟩ := (brings_sl (m := mu.el) hU hv hrep hnj (fun _ _ _ h => h)).ex
        exact ⟨news, hsrc, fun _ => none', ⟨fun _ _ _ _ hb => hb.elim⟩, fun _ _ hb => hb.elim, fun i hi => hel _ _ _ (b3 i hi)⟩
      split at h1
      · split at h1
        · exact ⟨y, st, fp, fl, none', F, h1, hS, fun _ hb => hb, hnone (fun _ _ _ h => rep_s h) rfl, fun _ hb => hb.elim, fun _ hb => hb, fun _ hb => hb.elim⟩
        · exact ⟨y, st, fp, fl, none', F, h1, hS, fun _ hb => hb, hnone (fun _ _ _ h => rep_s h) rfl, fun _ hb => hb.elim, fun _ hb => hb, fun _ hb => hb.elim⟩
        · split at h1
          · rename_i hf
            simp only [Bool.and_eq_true] at hf
            have hnj' : mu.el.noJ = true := by
              have := hf.2
              cases mu <;> first | exact this | cases this
            exact ⟨y, st, fp, fl, none', F, h1, hS, fun _ hb => hb, hnone (fun _ _ _ h => rep_flat hf.1 hnj' h) hf.2, fun _ hb => hb.elim, fun _ hb => hb, fun _ hb => hb.elim⟩
          · split at h1
            · rename_i q hnj
              obtain ⟨st1, fp1, F1, h2, hS1, hF1, hv1, hrep1⟩ := freeze_inv hS hd nofun h1
              exact ⟨y, st1, fp1, fl, none', F1, h2, hS1, hF1, brings_sl hU hv1 hrep1 rfl (fun _ _ _ h => rep_s h), fun _ hb => hb.elim, fun _ hb => hb, fun _ hb => hb.elim⟩
            · simp [RM.run] at h1
      · split at h1
        · rename_i mu'
          split at h1
          · rename_i he
            obtain ⟨st1, fp1, fq, F1, h2, hS1, hF1, hv1, hm1, hrep1, hfl, _⟩ := take_melt (m' := .o m) hS hd he h1
            exact ⟨y, st1, fp1, _, fq, F1, h2, hS1, hF1, brings_sl hU hv1 hrep1 hm (fun _ _ _ h => h), fun _ hb => .inr hb, fun _ hb => .inl hb, hfl⟩
          · simp [RM.run] at h1
        · simp [RM.run] at h1
    · simp [RM.run] at h1
  | str =>
    dsimp only at h1
    split at h1
    · rename_i y' hT hc
      obtain ⟨eu, hy⟩ := castI_some hc
      cases eu
      simp only at hy
      subst hy
      have hval := (rep_str hv hmu hrep).1
      exact ⟨nums y, st, fp, fl, none', F, h1, hS, fun _ hb => hb, by rw [hval]; exact brings_str (wt_str (Env.is_ok hE hT)), fun _ hb => hb.elim, fun _ hb => hb, fun _ hb => hb.elim⟩
    · simp [RM.run] at h1
  | _ => simp [RM.run] at h1

theorem hdr_inv {α : Type} {Kk : α → St → Option R} {st1 : St} {fp1 : Nat → Blks} {fl1 : Blks} {val : Value} {t : Ty} {m : Md} {y : t.I} {src : Src} {k : RM α} {f1 : Blks} (hS : SR e F w st V fp fl) (hd : DataX F w st V val t m y src) (hS1 : SR e F w st1 V fp1 fl1) (hrep : rep F w t m y (cv val) f1)
    (h : (hdr src t y k).run C st1 Kk = some res) : ∃ st2 fp2, k.run C st2 Kk = some res ∧ SR e F w st2 V fp2 fl1 := by
  unfold hdr at h
  split at h
  · rename_i r p
    split at h
    · split at h
      · rename_i et u y
        simp only [setS, RM.run] at h
        obtain ⟨hm, t0, m0, x0, h1, h2, h3, h4, c', ad, h5, h6⟩ := hd
        simp only [rs, Option.some.injEq, Prod.mk.injEq] at h5
        simp only [getP, Option.some.injEq] at h2
        cases h2
        obtain ⟨_, hc', _⟩ := h5
        have hsv := hS.sv r
        rw [h1] at hsv
        have hVr : V r = val := by
          rw [h6, ← eq_of_heq (heq_of_eq hc')]
          exact hsv.1 hm
        rw [← hVr] at hrep
        have hgen : ∀ us : List (Ty.I .unit), us.length = List.length (y : List u.I) → rep F w (.sl et .unit) .s us (cv (V r)) (fun _ => False) := by
          intro us hus
          cases m with
          | j => exact absurd rfl hm
          | p a b =>
            simp only [rep] at hrep ⊢
            obtain ⟨A, cap, q1, q2, q3, q4, q5⟩ := hrep
            exact ⟨A, cap, by rw [hus]; exact q1, by rw [hus]; exact q2, q3, q4, fun a ha => (q5 a ha).2.elim⟩
          | s =>
            simp only [rep] at hrep ⊢
            obtain ⟨A, cap, q1, q2, q3, q4, q5⟩ := hrep
            exact ⟨A, cap, by rw [hus]; exact q1, by rw [hus]; exact q2, q3, q4, fun a ha => ⟨(q5 a ha).1, .inl (by simp [Ty.size]), fun i _ => trivial⟩⟩
          | o m1 =>
            simp only [rep] at hrep ⊢
            obtain ⟨A, cap, q1, q2, q3, q4, q5⟩ := hrep
            exact ⟨A, cap, by rw [hus]; exact q1, by rw [hus]; exact q2, q3, q4, fun a ha => ⟨(q5 a ha).1, .inl (by simp [Ty.size]), fun i _ => trivial⟩⟩
        have hrep2 : rep F w (.sl et .unit) .s (List.map (fun _ => ()) (y : List u.I)) (cv (V r)) (fun _ => False) := hgen _ (List.length_map _)
        have hS2 := hS1.fillV (d := r) (v := V r) (fq := fun _ => False) (fl' := fl1) (fun _ => rfl) (fun _ => (show isV (.sl et .unit) (V r) from hsv.1 hm)) hrep2 (fun _ hb => hb.elim) (fun b hb => ⟨hb, fun h => h⟩)
        rw [updV_self] at hS2
        exact ⟨_, _, h, hS2⟩
      · exact ⟨st1, fp1, h, hS1⟩
    · exact ⟨st1, fp1, h, hS1⟩
  · exact ⟨st1, fp1, h, hS1⟩

theorem hdrV_inv {α : Type} {Kk : α → St → Option R} {st1 : St} {fp1 : Nat → Blks} {fl1 : Blks} {val : Value} {t : Ty} {m : Md} {y : t.I} {src : Src} {k : RM α} {f1 : Blks} {sv : SV} (hS : SR e F w st V fp fl) (hd : (∀ r p l h, sv ≠ .sub r p l h) → DataX F w st V val t m y src) (hS1 : SR e F w st1 V fp1 fl1) (hrep : rep F w t m y (cv val) f1)
    (h : (hdrV sv src t y k).run C st1 Kk = some res) : ∃ st2 fp2, k.run C st2 Kk = some res ∧ SR e F w st2 V fp2 fl1 := by
  unfold hdrV at h
  split at h
  · exact ⟨st1, fp1, h, hS1⟩
  · rename_i hn
    exact hdr_inv hS (hd hn) hS1 hrep h

theorem op_append {T U : TypeId} {x z : Operand} {c : Call} (hE : EnvTy P env) (ho : o.op = .call c) (hc : c.callee = .builtin .append) (h1 : c.args.toList = [x, z]) (h2 : c.argTypes.toList = [T, U]) (hS : SR e F w st V fp none') (hA : AR env gh a V) (hN : Nxt env gh e K res next)
    (h : (evB env o .append [x, z] [T, U]).run C st K = some res) : o.wp P a w next Q := by
  have e1 : c.args = #[x, z] := by apply Array.ext'; rw [h1]
  have e2 : c.argTypes = #[T, U] := by apply Array.ext'; rw [h2]
  have hrun : ∀ v w', (Builtin.append_ #[T, U] o.type #[a.eval x, a.eval z]).run P w = .ok v w' → (execOp a.eval o).run P w = .ok (.value v) w' := by
    intro v w' hv
    simp only [execOp, ho, resolve, hc, e1, e2, Sem.run_bind, Sem.run_pure, Result.andThen_ok, invoke, builtin, List.map_toArray, List.map_cons, List.map_nil, hv]
  simp only [evB] at h
  obtain ⟨sv, h, hx⟩ := rdO_inv h
  obtain ⟨t, m, y, src, h1, hd, _, hdx⟩ := deref_inv hS hA hx h
  obtain ⟨st0, fp0, f1, h2, hS0, hv, hm, hrep, hfl, _⟩ := take_inv hS hd h1
  obtain ⟨st1, fp1, h2', hS1⟩ := hdrV_inv hS hdx hS0 hrep h2
  clear h2
  revert h2'
  intro h2
  split at h2
  · rename_i et u m' y
    split at h2
    · rename_i hT
      simp only [Bool.and_eq_true] at hT
      obtain ⟨y', st2, fp2, fl2, f2, F2, h3, hS2, hF2, hb, b1, b2, b3⟩ := rdTail_inv hE hS1 hA hT.2 h2
      have hrep := rep_frame hF2 (fun _ _ => rfl) (fun _ _ => rfl) hrep
      simp only [RM.run] at h3
      cases hq : decide (List.length y + List.length y' ≤ most) with
      | false => rw [hq] at h3; cases h3
      | true =>
        rw [hq] at h3
        obtain ⟨v', w', fl', fq, k1, k2, k3, k4, k5⟩ := append_ok (ty := o.type) (Env.is_ok hE hT.1) hS2 hv hrep hb (fun b hb => b2 b (.inr hb)) b1 (fun b hb hc => b3 b hc (.inr hb)) (of_decide_eq_true hq)
        exact endV k2 hA hN h3 (fun _ => k3) k4 k5 (hrun _ _ k1)
    · simp [RM.run] at h2
  · simp [RM.run] at h2

theorem fold_inv {α : Type} {Kk : α → St → Option R} {f : Int → Int → Int} {g : Value → Value → Sem Value} {kd : IntKind} (hf : ∀ x y, f x y = x ∨ f x y = y) (hg : ∀ w x y, (g (.int kd x) (.int kd y)).run P w = .ok (.int kd (f x y)) w) (hS : SR e F w st V fp fl) (hA : AR env gh a V) :
    ∀ {xs : List Operand} {n : Int} {k : Int → RM α}, kd.has n → (foldI env f kd xs n k).run C st Kk = some res → ∃ z, (k z).run C st Kk = some res ∧ kd.has z ∧ ∀ w, ((xs.map a.eval).foldlM g (.int kd n)).run P w = .ok (.int kd z) w
  | [], n, k, hn, h => ⟨n, h, hn, fun _ => rfl⟩
  | x :: xs, n, k, hn, h => by
    simp only [foldI] at h
    obtain ⟨kd', y, h1, e1, r1⟩ := rdInt_inv hS hA h
    split at h1
    · rename_i hk
      have := kEq_eq hk
      subst this
      obtain ⟨z, k1, k2, k3⟩ := fold_inv hf hg hS hA (by rcases hf n y with hh | hh <;> rw [hh] <;> assumption) h1
      refine ⟨z, k1, k2, fun w => ?_⟩
      simp only [List.map_cons, List.foldlM_cons, Sem.run_bind, e1, hg, Result.andThen_ok]
      exact k3 w
    · simp [RM.run] at h1

theorem op_min {xs : List Operand} {x : Operand} {c : Call} (ho : o.op = .call c) (hc : c.callee = .builtin .min) (h1 : c.args.toList = x :: xs) (hS : SR e F w st V fp none') (hA : AR env gh a V) (hN : Nxt env gh e K res next)
    (h : (evB env o .min (x :: xs) c.argTypes.toList).run C st K = some res) : wpp P o a w next := by
  have e1 : c.args = (x :: xs).toArray := by apply Array.ext'; rw [h1]
  simp only [evB] at h
  obtain ⟨kd, y, h1, e2, r1⟩ := rdInt_inv hS hA h
  obtain ⟨z, k1, k2, k3⟩ := fold_inv (P := P) (g := Builtin.min2) (fun x y => by show (if y < x then y else x) = x ∨ (if y < x then y else x) = y; split <;> simp) (fun w x y => rfl) hS hA r1 h1
  refine endVp (v := .int kd z) hS hA hN k1 (fun _ => rfl) (mk_int k2) (fun _ hb => hb) ?_
  intro w
  simp only [execOp, ho, resolve, hc, e1, Sem.run_bind, Sem.run_pure, Result.andThen_ok, invoke, builtin, List.map_toArray, List.map_cons, Builtin.min_, e2, k3]

theorem op_max {xs : List Operand} {x : Operand} {c : Call} (ho : o.op = .call c) (hc : c.callee = .builtin .max) (h1 : c.args.toList = x :: xs) (hS : SR e F w st V fp none') (hA : AR env gh a V) (hN : Nxt env gh e K res next)
    (h : (evB env o .max (x :: xs) c.argTypes.toList).run C st K = some res) : wpp P o a w next := by
  have e1 : c.args = (x :: xs).toArray := by apply Array.ext'; rw [h1]
  simp only [evB] at h
  obtain ⟨kd, y, h1, e2, r1⟩ := rdInt_inv hS hA h
  obtain ⟨z, k1, k2, k3⟩ := fold_inv (P := P) (g := Builtin.max2) (fun x y => by show (if y > x then y else x) = x ∨ (if y > x then y else x) = y; split <;> simp) (fun w x y => rfl) hS hA r1 h1
  refine endVp (v := .int kd z) hS hA hN k1 (fun _ => rfl) (mk_int k2) (fun _ hb => hb) ?_
  intro w
  simp only [execOp, ho, resolve, hc, e1, Sem.run_bind, Sem.run_pure, Result.andThen_ok, invoke, builtin, List.map_toArray, List.map_cons, Builtin.max_, e2, k3]

end
end Go.Trm
