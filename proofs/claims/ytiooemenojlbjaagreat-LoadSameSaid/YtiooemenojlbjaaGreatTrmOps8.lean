import Derived.Test.YtiooemenojlbjaaGreatTrmOps7
set_option linter.unusedVariables false
set_option linter.unusedSimpArgs false
namespace Go.Trm

theorem str_size (y : List UInt8) : (⟨y.toArray⟩ : ByteArray).size = y.length := by show y.toArray.size = _; simp

theorem str_extract (y : List UInt8) (l h : Int) : (⟨y.toArray⟩ : ByteArray).extract l.toNat h.toNat = ⟨(rng y l h).toArray⟩ := by
  apply ByteArray.ext
  rw [ByteArray.data_extract]
  apply Array.ext'
  simp [rng, List.drop_take]

section
variable {P : Program} {env : Env} {e : Entry} {F : Blks} {w : World} {st : St} {V : Nat → Value} {fp : Nat → Blks} {fl : Blks} {a : Act} {o : Oper} {R : Type} {K : Unit → St → Option R} {res : R} {C : Cx R} {gh : Nat → Value} {next : Act → World → Prop} {Q : Exit → Act → World → Prop}

theorem updV_self (V : Nat → Value) (s : Nat) : updV V s (V s) = V := by
  funext i
  unfold updV
  split
  · rename_i h; rw [h]
  · rfl

theorem op_extract {x : Operand} {i : Nat} (ho : o.op = .extract x i) (hS : SR e F w st V fp none') (hA : AR env gh a V) (hN : Nxt env gh e K res next) (h : (evOp env o).run C st K = some res) : wpp P o a w next := by
  simp only [evOp, ho] at h
  obtain ⟨sv, h1, hx⟩ := rdO_inv h
  split at h1
  · rename_i l
    rcases hx with ⟨s, rfl, hs, h3⟩ | ⟨c, rfl, h3⟩ | ⟨f, rfl, h3⟩
    · have hev : a.eval (.tmp s) = V (env.b + s) := hA.tmps s hs
      have hsv := hS.sv (env.b + s)
      rw [← h3] at hsv
      obtain ⟨vs, e1, e2, fs, e3, e4, e5⟩ := hsv
      have hrun : ∀ u, vs[i]? = some u → ∀ w, (execOp a.eval o).run P w = .ok (.value u) w := by
        intro u hu w
        simp only [execOp, ho, hev, e1, Instr.extract, List.getElem?_toArray, hu, Sem.run_bind, Sem.run_pure, Result.andThen_ok]
      split at h1
      · rename_i t y hl
        obtain ⟨u, k1, k2, k3⟩ := e5 i _ _ _ hl
        exact endVp hS hA hN h1 (fun _ => k2 nofun) (rep_s (fp' := none') k3) (fun _ hb => hb) (hrun u k1)
      · rename_i t m y hm hl
        obtain ⟨u, k1, k2, k3⟩ := e5 i _ _ _ hl
        simp only [self, setS, RM.run] at h1
        have hS1 := hS.drop (env.b + s)
        have hS2 := hS1.fillO (d := env.b + s) (v := V (env.b + s)) (sv := .tup (l.set i .un)) (fq := fun b => fp (env.b + s) b ∧ ¬ fs i b) (fl' := fs i) (fun _ => rfl) rfl
          ⟨vs, e1, by simpa using e2, fun k b => k ≠ i ∧ fs k b, ⟨fun k j hkj b hb hc => e3.disj k j hkj b hb.2 hc.2⟩, fun k b hb => ⟨e4 k b hb.2, fun hc => e3.disj k i hb.1 b hb.2 hc⟩, fun k t1 m1 x1 hk => by
            by_cases hki : k = i
            · subst hki
              rw [List.getElem?_set] at hk
              simp only [if_true] at hk
              split at hk <;> cases hk
            · rw [List.getElem?_set_ne (Ne.symm hki)] at hk
              obtain ⟨u1, q1, q2, q3⟩ := e5 k t1 m1 x1 hk
              exact ⟨u1, q1, q2, rep_fp (fun b hb => ⟨hki, hb⟩) q3⟩⟩
          (fun b hb => .inr hb.1) (fun b hb => ⟨.inr (e4 i b hb), fun hc => hc.2 hb⟩)
        rw [updV_self] at hS2
        have hst : (st.put (env.b + s) SV.un).put (env.b + s) (.tup (l.set i .un)) = st.put (env.b + s) (.tup (l.set i .un)) := by
          funext j
          by_cases hj : j = env.b + s
          · subst hj; rw [put_same, put_same]
          · rw [put_other hj, put_other hj, put_other hj]
        rw [hst] at hS2
        exact endVp hS2 hA hN h1 k2 k3 (fun _ hb => hb) (hrun u k1)
      · simp [RM.run] at h1
    · unfold cst at h3; (repeat' split at h3) <;> cases h3
    · cases h3
  · simp [RM.run] at h1

theorem rdCaps_inv {α : Type} {K : α → St → Option R} : ∀ {xs : List Operand} {k : List (Nat × List PE) → RM α} (_ : SR e F w st V fp fl) (_ : AR env gh a V) (_ : (rdCaps env xs k).run C st K = some res),
    ∃ l : List (Nat × List PE), (k l).run C st K = some res ∧ l.length = xs.length ∧ ∀ (i : Nat) (q : Nat × List PE), l[i]? = some q → ∃ u, (xs.map a.eval)[i]? = some u ∧ CapOk F w st V q.1 q.2 u
  | [], k, hS, hA, h => ⟨[], h, rfl, fun i q hq => by simp at hq⟩
  | x :: xs, k, hS, hA, h => by
    simp only [rdCaps] at h
    obtain ⟨sv, h, hx⟩ := rdO_inv h
    have key : ∀ r p, CapOk F w st V r p (a.eval x) → (rdCaps env xs fun l => k ((r, p) :: l)).run C st K = some res → ∃ l : List (Nat × List PE), (k l).run C st K = some res ∧ l.length = (x :: xs).length ∧ ∀ (i : Nat) (q : Nat × List PE), l[i]? = some q → ∃ u, ((x :: xs).map a.eval)[i]? = some u ∧ CapOk F w st V q.1 q.2 u := by
      intro r p ha h1
      obtain ⟨l, h2, h3, h4⟩ := rdCaps_inv hS hA h1
      refine ⟨(r, p) :: l, h2, by simp [h3], fun i q hq => ?_⟩
      cases i with
      | zero => simp only [List.getElem?_cons_zero, Option.some.injEq] at hq; subst hq; exact ⟨_, rfl, ha⟩
      | succ i => simp only [List.getElem?_cons_succ] at hq; simpa using h4 i q hq
    split at h
    · exact key _ [] (bx_val hS hA hx) h
    · rcases rdP_inv hS hA h with ⟨r, p, h1, ha⟩ | ⟨t, y, b, k, h1, _⟩
      · cases p with
        | nil => simp [RM.run] at h1
        | cons e p => exact key r (e :: p) ha h1
      · simp [RM.run] at h1

theorem op_makeFunc {f : FuncId} {first caps : Array Operand} (ho : o.op = .makeFunc (.func f) first caps) (hS : SR e F w st V fp none') (hA : AR env gh a V) (hN : Nxt env gh e K res next) (h : (evOp env o).run C st K = some res) : wpp P o a w next := by
  simp only [evOp, ho] at h
  obtain ⟨l, h1, h2, h3⟩ := rdCaps_inv hS hA h
  obtain ⟨l', h1, h2', h3'⟩ := rdCaps_inv hS hA h1
  refine endOp (fq := none') (v := .func (.func f) ((first.toList.map a.eval).toArray) ((caps.toList.map a.eval).toArray)) hS hA hN rfl h1 ⟨first.toList.map a.eval, caps.toList.map a.eval, rfl, ⟨by simpa using h2.symm, fun k q hq => h3 k q hq⟩, ⟨by simpa using h2'.symm, fun k q hq => h3' k q hq⟩⟩ (fun _ hb => hb) ?_
  intro w
  simp only [execOp, ho, Instr.makeFunc, Sem.run_bind, Sem.run_pure, Result.andThen_ok]
  have e1 : (List.map a.eval first.toList).toArray = Array.map a.eval first := by apply Array.ext'; simp
  have e2 : (List.map a.eval caps.toList).toArray = Array.map a.eval caps := by apply Array.ext'; simp
  rw [e1, e2]

theorem bound_inv {α : Type} {K : α → St → Option R} {x : Option Operand} {d : Int} {k : Int → RM α} (hS : SR e F w st V fp fl) (hA : AR env gh a V) (h : (bound env x d k).run C st K = some res) :
    ∃ n, (k n).run C st K = some res ∧ ((x = none ∧ n = d) ∨ ∃ o kd, x = some o ∧ a.eval o = .int kd n) := by
  unfold bound at h
  split at h
  · exact ⟨d, h, .inl ⟨rfl, rfl⟩⟩
  · obtain ⟨kd, n, h1, e1, r1⟩ := rdInt_inv hS hA h
    exact ⟨n, h1, .inr ⟨_, kd, rfl, e1⟩⟩

theorem run_bounds {b : Bool} {len cap : Nat} {lo hi : Option Operand} {l h : Int} (hl : (lo = none ∧ l = 0) ∨ ∃ o kd, lo = some o ∧ a.eval o = .int kd l) (hh : (hi = none ∧ h = (len : Nat)) ∨ ∃ o kd, hi = some o ∧ a.eval o = .int kd h)
    (hr : 0 ≤ l ∧ l ≤ h ∧ h ≤ (len : Nat)) (hc : len ≤ cap) : (Instr.sliceBounds b len cap (lo.map a.eval) (hi.map a.eval) none).run P w = .ok (l.toNat, h.toNat, cap) w := by
  have h2 : 0 ≤ h := by omega
  have h3 : h ≤ (cap : Int) := by omega
  have h4 : l ≤ (h.toNat : Int) := by omega
  have h5 : 0 ≤ (len : Int) := by omega
  rcases hl with ⟨rfl, rfl⟩ | ⟨o1, k1, rfl, e1⟩ <;> rcases hh with ⟨rfl, rfl⟩ | ⟨o2, k2, rfl, e2⟩
  · simp [Instr.sliceBounds]
  · simp [Instr.sliceBounds, Instr.sliceBound, asIntOf, e2, h2, h3]
  · simp [Instr.sliceBounds, Instr.sliceBound, asIntOf, e1, hr.1, hr.2.1]
  · simp [Instr.sliceBounds, Instr.sliceBound, asIntOf, e1, e2, hr.1, h2, h3]
    intro hc; omega

theorem op_slice {T : TypeId} {x : Operand} {lo hi : Option Operand} (hE : EnvTy P env) (ho : o.op = .slice T x lo hi none) (hS : SR e F w st V fp none') (hA : AR env gh a V) (hN : Nxt env gh e K res next) (h : (evOp env o).run C st K = some res) : wpp P o a w next := by
  simp only [evOp, ho] at h
  obtain ⟨sv, h, hx⟩ := rdO_inv h
  obtain ⟨t, m, y, src, h1, hd, _⟩ := derefX_inv hS hA hx h
  obtain ⟨hv, hm, fq, hrep, _⟩ := hd.rep hS
  cases t with
  | str =>
    dsimp only at h1
    split at h1
    · rename_i hT
      obtain ⟨l, h2, b1⟩ := bound_inv hS hA h1
      obtain ⟨hh, h3, b2⟩ := bound_inv hS hA h2
      simp only [RM.run] at h3
      cases hb : inR l hh (List.length y) with
      | false => rw [hb] at h3; cases h3
      | true =>
        rw [hb] at h3
        have hb' := inR_iff hb
        have e1 := (rep_str hv hm hrep).1
        have hln := (rep_str hv hm hrep).2
        have hsz := str_size y
        refine endVp (v := .string ⟨(rng (y : List UInt8) l hh).toArray⟩) hS hA hN h3 (fun _ => rfl) (mk_str (by rw [rng_length hb']; omega)) (fun _ hb => hb) ?_
        have hbs := fun w => run_bounds (P := P) (w := w) (b := false) (cap := List.length (y : List UInt8)) b1 b2 hb' (Nat.le_refl _)
        have hex := str_extract y l hh
        have hu := wt_str (Env.is_ok hE hT)
        intro w
        simp only [execOp, ho, e1, Option.map_none, Instr.sliceAt, Instr.slice, Sem.run_bind, run_underlying hu, Result.andThen_ok, hsz, hbs, Sem.run_pure, hex, Option.isSome_none, Bool.false_eq_true, if_false]
    · simp [RM.run] at h1
  | sl et u =>
    dsimp only at h1
    split at h1
    · rename_i hT
      obtain ⟨l, h2, b1⟩ := bound_inv hS hA h1
      obtain ⟨hh, h3, b2⟩ := bound_inv hS hA h2
      simp only [RM.run] at h3
      cases hb : inR l hh (List.length y) with
      | false => rw [hb] at h3; cases h3
      | true =>
        rw [hb] at h3
        have hb' := inR_iff hb
        have key : ∀ {F : Blks} {st : St} {fp : Nat → Blks}, SR e F w st V fp none' → rep F w (.sl et u) .s y (cv (a.eval x)) none' → (fin env o (.v (.sl et u) .s (rng y l hh))).run C st K = some res → wpp P o a w next := by
          intro F st fp hS hrep h3
          obtain ⟨g1, g2⟩ := wt_sl (Env.is_ok hE hT)
          have hval : a.eval x = cv (a.eval x) 0 := by
            have h2 : a.eval x = valOf (.sl et u) (cv (a.eval x)) := hv
            simpa only [valOf, Ty.agg, Bool.false_eq_true, if_false] using h2
          simp only [rep] at hrep
          obtain ⟨A, cap, q1, q2, q3, q4, q5⟩ := hrep
          have hbs := fun w => run_bounds (P := P) (w := w) (b := true) (cap := cap) b1 b2 hb' q2
          have hrun : ∀ w, (execOp a.eval o).run P w = .ok (.value (.slice (if cap = l.toNat then A else A.map (·.add (l.toNat * u.size))) (hh.toNat - l.toNat) (cap - l.toNat))) w := by
            intro w
            simp only [execOp, ho, hval.trans q1, Option.map_none, Instr.sliceAt, Instr.slice, Sem.run_bind, run_underlying g1, Result.andThen_ok, hbs, Sem.run_pure, run_sizeOf g2]
          have hlen := rng_length (l := (y : List u.I)) hb'
          refine endVp (fq := none') hS hA hN h3 (fun _ => ?_) ?_ (fun _ hb => hb) hrun
          · simp only [isV, valOf, Ty.agg, Bool.false_eq_true, if_false]; rfl
          · simp only [rep]
            refine ⟨(if cap = l.toNat then A else A.map (·.add (l.toNat * u.size))), cap - l.toNat, ?_, ?_, ?_, ?_, fun A' hA' => ?_⟩
            · rw [hlen]; rfl
            · rw [hlen]; omega
            · omega
            · intro hA'
              cases A with
              | none => have := q4 rfl; omega
              | some A =>
                split at hA'
                · cases hA'
                · simp at hA'
            · cases A with
              | none => split at hA' <;> simp at hA'
              | some A =>
                obtain ⟨hsp, q6, q7⟩ := q5 A rfl
                by_cases hcz : cap = 0
                · have hcl : cap = l.toNat := by omega
                  rw [if_pos hcl] at hA'
                  cases hA'
                  have h0 : hh.toNat - l.toNat = 0 := by omega
                  refine ⟨fun hc => by omega, .inl (by rw [hlen, h0, Nat.zero_mul]), fun i hi => ?_⟩
                  rw [hlen] at hi; omega
                replace hsp := hsp (by omega)
                obtain ⟨b, k, sp⟩ := A
                simp only at hsp
                subst hsp
                by_cases hcl : cap = l.toNat
                · rw [if_pos hcl] at hA'
                  cases hA'
                  have h0 : hh.toNat - l.toNat = 0 := by omega
                  refine ⟨fun _ => rfl, .inl (by rw [hlen, h0, Nat.zero_mul]), fun i hi => ?_⟩
                  rw [hlen] at hi; omega
                · rw [if_neg hcl] at hA'
                  simp only [Option.map_some, Option.some.injEq, addr_add] at hA'
                  subst hA'
                  refine ⟨fun _ => rfl, ?_, fun i hi => ?_⟩
                  · rcases q6 with q6 | ⟨q6, q8⟩
                    · left
                      rcases Nat.mul_eq_zero.1 q6 with q6 | q6
                      · rw [hlen]
                        have : hh.toNat - l.toNat = 0 := by omega
                        rw [this, Nat.zero_mul]
                      · rw [q6, Nat.mul_zero]
                    · right
                      refine ⟨q6, ?_⟩
                      obtain ⟨cs, el, fz, p1, p2, p3⟩ := q8
                      refine ⟨cs, el, fz, p1, ?_, p3⟩
                      simp only at p2 ⊢
                      rw [hlen]
                      have : (l.toNat + (hh.toNat - l.toNat)) * u.size ≤ List.length (y : List u.I) * u.size := Nat.mul_le_mul_right _ (by omega)
                      rw [Nat.add_mul] at this
                      omega
                  · rw [hlen] at hi
                    rw [rng_getD hb' hi]
                    have := q7 (l.toNat + i) (by omega)
                    simp only at this ⊢
                    rwa [Nat.add_mul, ← Nat.add_assoc] at this
        simp only [cond_true] at h3
        split at h3
        · exact key hS (rep_s hrep) h3
        · split at h3
          · rename_i hnj
            have hfr : (freeze src (fin env o (.v (.sl et u) .s (rng (y : List u.I) l hh)))).run C st K = some res → wpp P o a w next := by
              intro h3
              cases src with
              | none =>
                have hr := hd.2.2
                exact key hS (rep_freeze (fun _ hb => hb) hr hnj (fun _ hb => hb.elim)) h3
              | some rp =>
                obtain ⟨st1, fp1, F1, h4, hS1, hF1, hv1, hrep1⟩ := freeze_inv hS hd.at nofun h3
                exact key hS1 hrep1 h4
            unfold cutS at h3
            split at h3
            · split at h3
              · rename_i r p
                obtain ⟨g1, g2⟩ := wt_sl (Env.is_ok hE hT)
                have hval : a.eval x = cv (a.eval x) 0 := by
                  have h2 : a.eval x = valOf (.sl et u) (cv (a.eval x)) := hv
                  simpa only [valOf, Ty.agg, Bool.false_eq_true, if_false] using h2
                have hA1 : ∃ A cap, cv (a.eval x) 0 = .slice A (List.length (y : List u.I)) cap ∧ List.length (y : List u.I) ≤ cap := by
                  cases m <;> simp only [rep] at hrep <;> first | exact absurd rfl hm | (obtain ⟨A, cap, q1, q2, _⟩ := hrep; exact ⟨A, cap, q1, q2⟩)
                obtain ⟨A, cap, q1, q2⟩ := hA1
                have hbs := fun w => run_bounds (P := P) (w := w) (b := true) (cap := cap) b1 b2 hb' q2
                refine endOp (fq := none') (v := cutVal A cap l.toNat hh.toNat u.size) hS hA hN rfl h3 ?_ (fun _ hb => hb) ?_
                · obtain ⟨_, t0, m0, x0, d1, d2, d3, d4, c', ad, d5, d6⟩ := hd
                  intro t1 m1 x1 h2
                  rw [d1] at h2
                  cases h2
                  refine ⟨d3, d4, _, c', ad, d5, et, u, A, List.length (y : List u.I), cap, rfl, ?_, hb'.1, hb'.2.1, hb'.2.2, rfl⟩
                  have : a.eval x = c' 0 := by rw [d6]; simp only [valOf, Ty.agg, Bool.false_eq_true, if_false]
                  rw [← this, hval]
                  exact q1
                · intro w
                  simp only [execOp, ho, hval.trans q1, Option.map_none, Instr.sliceAt, Instr.slice, Sem.run_bind, run_underlying g1, Result.andThen_ok, hbs, Sem.run_pure, run_sizeOf g2, cutVal]
              · exact hfr h3
            · exact hfr h3
          · simp [RM.run] at h3
    · simp [RM.run] at h1
  | _ => simp [RM.run] at h1

theorem u8s_fold (l : List Int) (s : ByteArray) : l.foldl (fun r n => r.push (UInt8.ofNat n.toNat)) s = ⟨(s.data.toList ++ u8s l).toArray⟩ := by
  induction l generalizing s with
  | nil => simp [u8s]
  | cons n l ih =>
    simp only [List.foldl_cons]
    rw [ih]
    simp [u8s, ByteArray.push]

theorem run_wrapInt {S T : TypeId} {kd k : IntKind} {n : Int} {d : TypeDesc} (h1 : P.underlying S = some d) (h2 : P.underlying T = some (.int k)) : (convert S T (.int kd n)).run P w = .ok (.int k (k.wrap n)) w := by
  simp only [convert, Sem.run_bind, run_underlying h1, run_underlying h2, Result.andThen_ok, Conv.intToInt]
  cases d <;> rfl

theorem cells_bytes {b k : Nat} {y : List Int} {m : Md} {fs : Nat → Blks} (h : holdsW w b (k + y.length) false) (hm : m ≠ .j) (hr : ∀ i, i < y.length → rep F w (.int .u8) m (y.getD i (0:Int)) (rowW w b (k + i)) (fs i)) :
    (loadCells ⟨b, k, none⟩ y.length).run P w = .ok (y.map (Value.int .u8)).toArray w := by
  rw [run_loadCells w ⟨b, k, none⟩ y.length (fun j => rowW w b 0 (k + j)) (fun j hj => by rw [addr_add, cell_row h (by omega)])]
  congr 2
  refine List.ext_getElem (by simp) fun i h1 h2 => ?_
  simp only [List.length_map] at h2
  have h3 := hr i h2
  have : rowW w b (k + i) 0 = .int .u8 (y.getD i (0:Int)) := by cases m <;> simp only [rep] at h3 <;> first | exact h3.1 | exact absurd rfl hm
  rw [rowW_at, Nat.add_zero] at this
  simp [this, List.getD, h2]

end
end Go.Trm
