import Derived.Test.YtiooemenojlbjaaGreatTrmMelt
set_option linter.unusedVariables false
set_option linter.unusedSimpArgs false
namespace Go.Trm

/-- all that comes behind -/
def Nxt {R : Type} (env : Env) (gh : Nat → Value) (e : Entry) (K : Unit → St → Option R) (res : R) (next : Act → World → Prop) : Prop :=
  ∀ F w st V fp a, SR e F w st V fp (fun _ => False) → AR env gh a V → K () st = some res → next a w

section
variable {P : Program} {env : Env} {e : Entry} {F : Blks} {w : World} {st : St} {V : Nat → Value} {fp : Nat → Blks} {fl : Blks} {a : Act} {o : Oper} {R : Type} {K : Unit → St → Option R} {res : R} {C : Cx R} {gh : Nat → Value} {next : Act → World → Prop} {Q : Exit → Act → World → Prop}

theorem wp_value {v : Value} {w' : World} (h : (execOp a.eval o).run P w = .ok (.value v) w') (hn : next (a.put o.dst v) w') : o.wp P a w next Q := by
  unfold Oper.wp
  rw [h]
  exact hn

theorem wp_skipped {w' : World} (h : (execOp a.eval o).run P w = .ok .skip w') (hn : next (a.put o.dst undef) w') : o.wp P a w next Q := by
  unfold Oper.wp
  rw [h]
  exact hn

/-- it yields a value, in whatever world, and leaves the world -/
def wpp (P : Program) (o : Oper) (a : Act) (w : World) (next : Act → World → Prop) : Prop := ∃ v, (∀ w', (execOp a.eval o).run P w' = .ok (.value v) w') ∧ next (a.put o.dst v) w

theorem wpp_wp (h : wpp P o a w next) : o.wp P a w next Q := by
  obtain ⟨v, h1, h2⟩ := h
  exact wp_value (h1 w) h2

theorem endVp {t : Ty} {m : Md} {y : t.I} {v : Value} {fq : Blks} (hS : SR e F w st V fp fl) (hA : AR env gh a V) (hN : Nxt env gh e K res next) (h : (fin env o (.v t m y)).run C st K = some res) (hv : m ≠ .j → isV t v) (hrep : rep F w t m y (cv v) fq) (hq : ∀ b, fq b → fl b)
    (hrun : ∀ w', (execOp a.eval o).run P w' = .ok (.value v) w') : wpp P o a w next := by
  obtain ⟨st', V', fp', F', h1, h2, h3⟩ := fin_invV hS hA h hv hrep hq
  exact ⟨v, hrun, hN _ _ _ _ _ _ h2 h3 h1⟩

theorem endOp {sv : SV} {v : Value} {fq : Blks} (hS : SR e F w st V fp fl) (hA : AR env gh a V) (hN : Nxt env gh e K res next) (hn : notV sv = true) (h : (fin env o sv).run C st K = some res) (hsv : svR F w st V fq v sv) (hq : ∀ b, fq b → fl b)
    (hrun : ∀ w', (execOp a.eval o).run P w' = .ok (.value v) w') : wpp P o a w next := by
  obtain ⟨st', V', fp', h1, h2, h3⟩ := fin_invO hS hA hn h hsv hq
  exact ⟨v, hrun, hN _ _ _ _ _ _ h2 h3 h1⟩

/-- it yields a value, and leaves the world -/
def wpw (P : Program) (o : Oper) (a : Act) (w : World) (next : Act → World → Prop) : Prop := ∃ v, (execOp a.eval o).run P w = .ok (.value v) w ∧ next (a.put o.dst v) w

theorem wpw_wp (h : wpw P o a w next) : o.wp P a w next Q := by
  obtain ⟨v, h1, h2⟩ := h
  exact wp_value h1 h2

theorem endVw {t : Ty} {m : Md} {y : t.I} {v : Value} {fq : Blks} (hS : SR e F w st V fp fl) (hA : AR env gh a V) (hN : Nxt env gh e K res next) (h : (fin env o (.v t m y)).run C st K = some res) (hv : m ≠ .j → isV t v) (hrep : rep F w t m y (cv v) fq) (hq : ∀ b, fq b → fl b)
    (hrun : (execOp a.eval o).run P w = .ok (.value v) w) : wpw P o a w next := by
  obtain ⟨st', V', fp', F', h1, h2, h3⟩ := fin_invV hS hA h hv hrep hq
  exact ⟨v, hrun, hN _ _ _ _ _ _ h2 h3 h1⟩

theorem endOw {sv : SV} {v : Value} {fq : Blks} (hS : SR e F w st V fp fl) (hA : AR env gh a V) (hN : Nxt env gh e K res next) (hn : notV sv = true) (h : (fin env o sv).run C st K = some res) (hsv : svR F w st V fq v sv) (hq : ∀ b, fq b → fl b)
    (hrun : (execOp a.eval o).run P w = .ok (.value v) w) : wpw P o a w next := by
  obtain ⟨st', V', fp', h1, h2, h3⟩ := fin_invO hS hA hn h hsv hq
  exact ⟨v, hrun, hN _ _ _ _ _ _ h2 h3 h1⟩

/-- the end: a value of data -/
theorem endV {t : Ty} {m : Md} {y : t.I} {v : Value} {fq : Blks} {w' : World} (hS : SR e F w' st V fp fl) (hA : AR env gh a V) (hN : Nxt env gh e K res next) (h : (fin env o (.v t m y)).run C st K = some res) (hv : m ≠ .j → isV t v) (hrep : rep F w' t m y (cv v) fq) (hq : ∀ b, fq b → fl b)
    (hrun : (execOp a.eval o).run P w = .ok (.value v) w') : o.wp P a w next Q := by
  obtain ⟨st', V', fp', F', h1, h2, h3⟩ := fin_invV hS hA h hv hrep hq
  exact wp_value hrun (hN _ _ _ _ _ _ h2 h3 h1)

theorem endO {sv : SV} {v : Value} {fq : Blks} {w' : World} (hS : SR e F w' st V fp fl) (hA : AR env gh a V) (hN : Nxt env gh e K res next) (hn : notV sv = true) (h : (fin env o sv).run C st K = some res) (hsv : svR F w' st V fq v sv) (hq : ∀ b, fq b → fl b)
    (hrun : (execOp a.eval o).run P w = .ok (.value v) w') : o.wp P a w next Q := by
  obtain ⟨st', V', fp', h1, h2, h3⟩ := fin_invO hS hA hn h hsv hq
  exact wp_value hrun (hN _ _ _ _ _ _ h2 h3 h1)

/-- a slot is given up: its blocks are on their way -/
theorem SR.drop (h : SR e F w st V fp fl) (d : Nat) : SR e F w (st.put d .un) V (fun i b => i ≠ d ∧ fp i b) (fun b => fl b ∨ fp d b) := by
  have hst : ∀ r', ∀ {t1 m1 x1}, (st.put d .un) r' = .v t1 m1 x1 → st r' = .v t1 m1 x1 := by
    intro r' t1 m1 x1 h1
    by_cases hr' : r' = d
    · subst hr'; rw [put_same] at h1; cases h1
    · rw [put_other hr'] at h1
      exact h1
  have hal : ∀ r' q v', AlOk w st V r' q v' → AlOk w (st.put d .un) V r' q v' := fun r' q v' ha t1 m1 x1 h1 => ha t1 m1 x1 (hst r' h1)
  refine ⟨fun i => ?_, ⟨fun i j hij b h1 h2 => h.disj.disj _ _ hij _ h1.2 h2.2⟩, fun i b hb => h.notF _ _ hb.2, fun i b hb => h.inH _ _ hb.2, h.inF, ?_, ?_, ?_, h.g1, h.g2, fun i b hb => h.g3 _ _ hb.2, ?_, h.g5, h.g6⟩
  · by_cases hid : i = d
    · subst hid; rw [put_same]; trivial
    · rw [put_other hid]
      have h1 := h.sv i
      have hfi : ∀ b, fp i b → i ≠ d ∧ fp i b := fun b hb => ⟨hid, hb⟩
      cases hsi : st i with
      | v t1 m1 x1 => rw [hsi] at h1; exact ⟨h1.1, rep_fp hfi h1.2⟩
      | al r' q => rw [hsi] at h1; exact hal _ _ _ h1
      | lz r' q => rw [hsi] at h1; exact fun t1 m1 x1 h2 => h1 t1 m1 x1 (hst r' h2)
      | sub r' q lo hi => rw [hsi] at h1; exact fun t1 m1 x1 h2 => h1 t1 m1 x1 (hst r' h2)
      | fn f s caps =>
        rw [hsi] at h1
        obtain ⟨us, vs, e1, e2, e3⟩ := h1
        exact ⟨us, vs, e1, e2.imp (fun _ _ hb => hb) fun q u _ => hal _ _ _, e3.imp (fun _ _ hb => hb) fun q u _ => hal _ _ _⟩
      | bx r' q =>
        rw [hsi] at h1
        exact h1
      | ifc T t1 x1 => rw [hsi] at h1; exact h1
      | tup l =>
        rw [hsi] at h1
        obtain ⟨vs, e1, e2, fs, e3, e4, e5⟩ := h1
        exact ⟨vs, e1, e2, fs, e3, fun k b hb => hfi b (e4 k b hb), e5⟩
      | nil => rw [hsi] at h1; exact h1
      | un => trivial
  · rintro i b ⟨hi, hb⟩ (hc | hc)
    · exact h.flD _ _ hb hc
    · exact h.disj.disj _ _ hi _ hb hc
  · rintro b (hc | hc)
    · exact h.flF _ hc
    · exact h.notF _ _ hc
  · rintro b (hc | hc)
    · exact h.flH _ hc
    · exact h.inH _ _ hc
  · rintro b (hc | hc)
    · exact h.g4 _ hc
    · exact h.g3 _ _ hc

abbrev none' : Blks := fun _ => False

theorem op_move {x : Operand} (ho : o.op = .move x) (hS : SR e F w st V fp none') (hA : AR env gh a V) (hN : Nxt env gh e K res next) (h : (evOp env o).run C st K = some res) : wpp P o a w next := by
  have hrun : ∀ w, (execOp a.eval o).run P w = .ok (.value (a.eval x)) w := by simp [execOp, ho]
  simp only [evOp, ho] at h
  obtain ⟨sv, h1, hx⟩ := rdO_inv h
  rcases hx with ⟨s, rfl, hs, rfl⟩ | ⟨c, rfl, rfl⟩ | ⟨f, rfl, rfl⟩
  · have hev : a.eval (.tmp s) = V (env.b + s) := hA.tmps s hs
    have hsv := hS.sv (env.b + s)
    have hown : ∀ {t : Ty} {m : Md} {y : t.I}, m ≠ .j → (match fzd env o with | true => freeze (some (env.b + s, [])) (fin env o (.v t .s y)) | false => fin env o (.lz (env.b + s) [])).run C st K = some res → st (env.b + s) = .v t m y → wpp P o a w next := by
      intro t m y hm h1 hst
      have hsv := hS.sv (env.b + s)
      rw [hst] at hsv
      cases hf : fzd env o with
      | false =>
        rw [hf] at h1
        exact endOp hS hA hN rfl h1 (by
          intro t0 m0 x0 h0
          rw [hst] at h0
          cases h0
          exact ⟨by simp [ownP], by simp [inP], _, _, _, by simp [rs]; exact ⟨rfl, rfl, rfl⟩, by rw [hev]; exact hsv.1 hm⟩) (fun _ hb => hb) hrun
      | true =>
        rw [hf] at h1
        have hd : DataX F w st V (V (env.b + s)) t m y (some (env.b + s, [])) := ⟨hm, t, m, y, hst, by simp [getP], by simp [ownP], by simp [inP], _, none, by simp [rs], hsv.1 hm⟩
        obtain ⟨st1, fp1, F1, h4, hS1, hF1, hv1, hrep1⟩ := freeze_inv hS hd.at nofun h1
        exact endVp (fq := none') hS1 hA hN h4 (fun _ => by rw [hev]; exact hv1) (by rw [hev]; exact rep_s hrep1) (fun _ hb => hb) hrun
    cases hst : st (env.b + s) with
    | v t m y =>
      rw [hst] at h1 hsv
      cases m with
      | s => exact endVp hS hA hN h1 (fun _ => by rw [hev]; exact hsv.1 nofun) (by rw [hev]; exact rep_s (fp' := none') hsv.2) (fun _ hb => hb) hrun
      | j => simp [RM.run] at h1
      | o m => exact hown (m := .o m) nofun h1 hst
      | p m m' => exact hown (m := .p m m') nofun h1 hst
    | al r p => rw [hst] at h1 hsv; exact endOp hS hA hN rfl h1 (fq := none') (by rw [hev]; exact hsv) (fun _ hb => hb) hrun
    | lz r p => rw [hst] at h1 hsv; exact endOp hS hA hN rfl h1 (fq := none') (by rw [hev]; exact hsv) (fun _ hb => hb) hrun
    | sub r p lo hi => rw [hst] at h1 hsv; exact endOp hS hA hN rfl h1 (fq := none') (by rw [hev]; exact hsv) (fun _ hb => hb) hrun
    | bx r p => rw [hst] at h1; simp [RM.run] at h1
    | ifc T t x => rw [hst] at h1 hsv; exact endOp hS hA hN rfl h1 (fq := none') (by rw [hev]; exact hsv) (fun _ hb => hb) hrun
    | fn f s c => rw [hst] at h1 hsv; exact endOp hS hA hN rfl h1 (fq := none') (by rw [hev]; exact hsv) (fun _ hb => hb) hrun
    | tup l =>
      rw [hst] at h1 hsv
      simp only [self, RM.run] at h1
      exact endOp (hS.drop (env.b + s)) hA hN rfl h1 (by rw [hev]; exact hsv) (fun _ hb => .inr hb) hrun
    | nil => rw [hst] at h1 hsv; exact endOp hS hA hN rfl h1 (fq := none') (by rw [hev]; exact hsv) (fun _ hb => hb) hrun
    | un => rw [hst] at h1; simp [RM.run] at h1
  · cases hc : cst env o.type c with
    | v t m y =>
      obtain ⟨b1, b2, b3⟩ := cst_data (F := F) (w := w) hc
      have h2 : (fin env o (.v t m y)).run C st K = some res := by
        rw [hc] at h1
        cases m with
        | j => exact absurd rfl b2
        | _ => exact h1
      exact endVp hS hA hN h2 (fun _ => b1) b3 (fun _ hb => hb) hrun
    | nil =>
      rw [hc] at h1
      refine endOp hS hA hN rfl h1 (fq := none') ?_ (fun _ hb => hb) hrun
      unfold cst at hc
      (repeat' split at hc) <;> first | (cases hc; done) | rfl
    | un => rw [hc] at h1; simp [RM.run] at h1
    | _ => unfold cst at hc; (repeat' split at hc) <;> cases hc
  · exact endOp hS hA hN rfl h1 (fq := none') ⟨[], [], rfl, ⟨rfl, fun k q hq => by simp at hq⟩, ⟨rfl, fun k q hq => by simp at hq⟩⟩ (fun _ hb => hb) hrun

theorem op_assign {x : Operand} (ho : o.op = .assign x) (hS : SR e F w st V fp none') (hA : AR env gh a V) (hN : Nxt env gh e K res next) (h : (evOp env o).run C st K = some res) : wpp P o a w next := by
  have hrun : ∀ w, (execOp a.eval o).run P w = .ok (.value (a.eval x)) w := by simp [execOp, ho]
  simp only [evOp, ho] at h
  have htake : ∀ {st : St}, (rdT env o.type x fun t m y => fin env o (.v t m y)).run C st K = some res → ∀ {fp}, SR e F w st V fp none' → wpp P o a w next := by
    intro st h fp hS
    unfold rdT at h
    obtain ⟨t, m, y, src, h1, hd, _⟩ := rdV_inv hS hA h
    obtain ⟨st', fp', fq, h2, hS', hv, hm, hrep, _, _⟩ := take_inv hS hd h1
    exact endVp hS' hA hN h2 (fun _ => hv) hrep (fun b hb => .inr hb) hrun
  obtain ⟨sv, h1, hx⟩ := rdO_inv h
  rcases hx with ⟨s, rfl, hs, rfl⟩ | ⟨c, rfl, rfl⟩ | ⟨f, rfl, rfl⟩
  · have hev : a.eval (.tmp s) = V (env.b + s) := hA.tmps s hs
    have hsv := hS.sv (env.b + s)
    cases hst : st (env.b + s) with
    | v t m y =>
      rw [hst] at h1 hsv
      cases m with
      | s => exact endVp hS hA hN h1 (fun _ => by rw [hev]; exact hsv.1 nofun) (by rw [hev]; exact rep_s (fp' := none') hsv.2) (fun _ hb => hb) hrun
      | j => exact htake h1 hS
      | o m => exact htake h1 hS
      | p m m' => exact htake h1 hS
    | al r p => rw [hst] at h1 hsv; exact endOp hS hA hN rfl h1 (fq := none') (by rw [hev]; exact hsv) (fun _ hb => hb) hrun
    | lz r p => rw [hst] at h1; exact htake h1 hS
    | sub r p lo hi => rw [hst] at h1; exact htake h1 hS
    | bx r p => rw [hst] at h1; simp [RM.run] at h1
    | ifc T t x => rw [hst] at h1 hsv; exact endOp hS hA hN rfl h1 (fq := none') (by rw [hev]; exact hsv) (fun _ hb => hb) hrun
    | fn f s c => rw [hst] at h1 hsv; exact endOp hS hA hN rfl h1 (fq := none') (by rw [hev]; exact hsv) (fun _ hb => hb) hrun
    | tup l => rw [hst] at h1; simp [RM.run] at h1
    | nil => rw [hst] at h1 hsv; exact endOp hS hA hN rfl h1 (fq := none') (by rw [hev]; exact hsv) (fun _ hb => hb) hrun
    | un => rw [hst] at h1; simp [RM.run] at h1
  · cases hc : cst env o.type c with
    | v t m y =>
      obtain ⟨b1, b2, b3⟩ := cst_data (F := F) (w := w) hc
      rw [hc] at h1
      cases m with
      | s => exact endVp hS hA hN h1 (fun _ => b1) b3 (fun _ hb => hb) hrun
      | j => exact absurd rfl b2
      | o m => exact htake h1 hS
      | p m m' => exact htake h1 hS
    | nil =>
      rw [hc] at h1
      refine endOp hS hA hN rfl h1 (fq := none') ?_ (fun _ hb => hb) hrun
      unfold cst at hc
      (repeat' split at hc) <;> first | (cases hc; done) | rfl
    | un => rw [hc] at h1; simp [RM.run] at h1
    | _ => unfold cst at hc; (repeat' split at hc) <;> cases hc
  · exact endOp hS hA hN rfl h1 (fq := none') ⟨[], [], rfl, ⟨rfl, fun k q hq => by simp at hq⟩, ⟨rfl, fun k q hq => by simp at hq⟩⟩ (fun _ hb => hb) hrun

/-- a number that is read -/
theorem rdInt_inv {T : TypeId} {x : Operand} {α : Type} {k : IntKind → Int → RM α} {K : α → St → Option R} (hS : SR e F w st V fp fl) (hA : AR env gh a V) (h : (rdInt env T x k).run C st K = some res) :
    ∃ kd n, (k kd n).run C st K = some res ∧ a.eval x = .int kd n ∧ kd.has n := by
  unfold rdInt at h
  obtain ⟨t, m, y, src, h1, hd, _⟩ := rdV_inv hS hA h
  obtain ⟨hv, hm, fq, hrep, _⟩ := hd.rep hS
  cases t with
  | int kd =>
    refine ⟨kd, y, h1, ?_⟩
    have : cv (a.eval x) 0 = .int kd y ∧ kd.has y := by cases m <;> simp only [rep] at hrep <;> first | exact hrep | exact absurd rfl hm
    refine ⟨?_, this.2⟩
    have h2 : a.eval x = valOf (.int kd) (cv (a.eval x)) := hv
    rw [h2]
    simp only [valOf, Ty.agg, Bool.false_eq_true, if_false]
    exact this.1
  | _ => simp [RM.run] at h1

theorem rep_int {kd : IntKind} {m : Md} {y : Int} {val : Value} {fq : Blks} (hv : isV (.int kd) val) (hm : m ≠ .j) (h : rep F w (.int kd) m y (cv val) fq) : val = .int kd y ∧ kd.has y := by
  have : cv val 0 = .int kd y ∧ kd.has y := by cases m <;> simp only [rep] at h <;> first | exact h | exact absurd rfl hm
  refine ⟨?_, this.2⟩
  have h2 : val = valOf (.int kd) (cv val) := hv
  rw [h2]
  simp only [valOf, Ty.agg, Bool.false_eq_true, if_false]
  exact this.1
theorem rep_bool {m : Md} {y : Bool} {val : Value} {fq : Blks} (hv : isV .bool val) (hm : m ≠ .j) (h : rep F w .bool m y (cv val) fq) : val = .bool y := by
  have : cv val 0 = .bool y := by cases m <;> simp only [rep] at h <;> first | exact h | exact absurd rfl hm
  have h2 : val = valOf .bool (cv val) := hv
  rw [h2]
  simp only [valOf, Ty.agg, Bool.false_eq_true, if_false]
  exact this
theorem rep_str {m : Md} {y : List UInt8} {val : Value} {fq : Blks} (hv : isV .str val) (hm : m ≠ .j) (h : rep F w .str m y (cv val) fq) : val = .string ⟨y.toArray⟩ ∧ y.length ≤ 2 ^ 63 - 1 := by
  have : cv val 0 = .string ⟨y.toArray⟩ ∧ y.length ≤ 2 ^ 63 - 1 := by cases m <;> simp only [rep] at h <;> first | exact h | exact absurd rfl hm
  have h2 : val = valOf .str (cv val) := hv
  refine ⟨?_, this.2⟩
  rw [h2]
  simp only [valOf, Ty.agg, Bool.false_eq_true, if_false]
  exact this.1
theorem rep_sl {et : TypeId} {t : Ty} {m : Md} {y : List t.I} {val : Value} {fq : Blks} (hv : isV (.sl et t) val) (hm : m ≠ .j) (h : rep F w (.sl et t) m y (cv val) fq) : ∃ A cap, val = .slice A y.length cap ∧ y.length ≤ cap ∧ cap ≤ 2 ^ 63 - 1 := by
  have : ∃ A cap, cv val 0 = .slice A y.length cap ∧ y.length ≤ cap ∧ cap ≤ 2 ^ 63 - 1 := by cases m <;> simp only [rep] at h <;> first | exact absurd rfl hm | (obtain ⟨A, cap, h1, h2, h3, _⟩ := h; exact ⟨A, cap, h1, h2, h3⟩)
  obtain ⟨A, cap, h1, h3⟩ := this
  refine ⟨A, cap, ?_, h3⟩
  have h2 : val = valOf (.sl et t) (cv val) := hv
  rw [h2]
  simp only [valOf, Ty.agg, Bool.false_eq_true, if_false]
  exact h1

theorem mk_int {kd : IntKind} {n : Int} (h : kd.has n) : rep F w (.int kd) .s n (cv (.int kd n)) none' := by simp only [rep]; exact ⟨rfl, h⟩
theorem mk_bool {b : Bool} : rep F w .bool .s b (cv (.bool b)) none' := by simp only [rep]; rfl
theorem mk_str {l : List UInt8} (h : l.length ≤ 2 ^ 63 - 1) : rep F w .str .s l (cv (.string ⟨l.toArray⟩)) none' := by simp only [rep]; exact ⟨rfl, h⟩

theorem op_pick {c x y : Operand} (ho : o.op = .pick c x y) (hS : SR e F w st V fp none') (hA : AR env gh a V) (hN : Nxt env gh e K res next) (h : (evOp env o).run C st K = some res) : wpp P o a w next := by
  simp only [evOp, ho] at h
  obtain ⟨t, m, z, src, h1, hd, _⟩ := rdV_inv hS hA h
  obtain ⟨hv, hm, fq, hrep, _⟩ := hd.rep hS
  cases t with
  | bool =>
    have hc := rep_bool hv hm hrep
    simp only [RM.run] at h1
    have hone : ∀ x, (rdV env o.type x fun t m x _ => match m with
        | .s => fin env o (.v t .s x)
        | _ => .fail).run C st K = some res → (∀ w, (execOp a.eval o).run P w = .ok (.value (a.eval x)) w) → wpp P o a w next := by
      intro x h2 hrun
      obtain ⟨t, m, z, src, h3, hd, _⟩ := rdV_inv hS hA h2
      obtain ⟨hv, hm, fq, hrep, _⟩ := hd.rep hS
      cases m with
      | s => exact endVp hS hA hN h3 (fun _ => hv) (rep_s (fp' := none') hrep) (fun _ hb => hb) hrun
      | _ => simp [RM.run] at h3
    cases z with
    | true => exact hone x h1 (fun w => by simp [execOp, ho, hc, asBool])
    | false => exact hone y h1 (fun w => by simp [execOp, ho, hc, asBool])
  | _ => simp [RM.run] at h1

end
end Go.Trm
