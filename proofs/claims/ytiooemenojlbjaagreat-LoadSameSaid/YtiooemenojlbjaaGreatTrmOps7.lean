import Derived.Test.YtiooemenojlbjaaGreatTrmOps6
import Derived.Laws.BytesString
set_option linter.unusedVariables false
set_option linter.unusedSimpArgs false
namespace Go.Trm

theorem str_get (l : List UInt8) (i : Nat) (h : i < l.length) : (⟨l.toArray⟩ : ByteArray)[i]? = some (l.getD i 0) := by
  have hsz : i < (⟨l.toArray⟩ : ByteArray).size := by show i < l.toArray.size; simpa using h
  rw [getElem?_pos (⟨l.toArray⟩ : ByteArray) i hsz]
  congr 1
  show (l.toArray)[i] = _
  simp [List.getD, h]

theorem wt_und {P : Program} {t : Ty} {T : TypeId} (h : wt P t T = true) : ∃ d, P.underlying T = some d := by
  cases hd : P.underlying T with
  | some d => exact ⟨d, rfl⟩
  | none => cases t <;> simp [wt, hd] at h

section
variable {P : Program} {env : Env} {e : Entry} {F : Blks} {w : World} {st : St} {V : Nat → Value} {fp : Nat → Blks} {fl : Blks} {a : Act} {o : Oper} {R : Type} {K : Unit → St → Option R} {res : R} {C : Cx R} {gh : Nat → Value} {next : Act → World → Prop} {Q : Exit → Act → World → Prop}

theorem op_field {T : TypeId} {x : Operand} {i : Nat} (hE : EnvTy P env) (ho : o.op = .field T x i) (hS : SR e F w st V fp none') (hA : AR env gh a V) (hN : Nxt env gh e K res next) (h : (evOp env o).run C st K = some res) : wpp P o a w next := by
  simp only [evOp, ho] at h
  obtain ⟨t, m, y, src, h1, hd, _⟩ := rdX_inv hS hA h
  obtain ⟨hv, hm, fq, hrep, _⟩ := hd.rep hS
  have key : ∀ {u : Ty} {mu : Md} {z : u.I}, env.is T t = true → getP t m y [.fld i] = some ⟨u, mu, z⟩ → ∃ kk, fldT t i = some (u, kk) ∧ kk + u.size ≤ t.size ∧ ∀ w, (execOp a.eval o).run P w = .ok (.value (valOf u (fun j => cv (a.eval x) (kk + j)))) w := by
    intro u mu z hT hg
    obtain ⟨kk, f1, f2⟩ := getP_fld hg
    obtain ⟨fs, f, g1, g2, g3, g4⟩ := wt_fld (Env.is_ok hE hT) f1
    have ha : t.agg = true := by cases t <;> first | rfl | (simp [fldT] at f1)
    obtain ⟨cs, c1, c2, c3⟩ := agg_val hv ha
    refine ⟨kk, f1, f2, ?_⟩
    intro w
    have hp := run_part (P := P) (w := w) (cs := cs) (off := f.offset) g4 (by rw [c2, g3]; exact f2)
    rw [g3] at hp
    simp only [c3] at hp
    have hx : (asAgg (a.eval x)).run P w = .ok cs w := by rw [c1]; rfl
    simp only [execOp, ho, Instr.field, Sem.run_bind, run_underlying g1, Result.andThen_ok, g2, hx, g3, hp, Sem.run_pure]
  split at h1
  · rename_i u z hT hg
    obtain ⟨kk, f1, f2, hr⟩ := key hT hg
    have hrf := rs_fld (w := w) (c := cv (a.eval x)) (ad := none) f1
    obtain ⟨c', ad', fp', k1, k2, k3⟩ := rep_get (ad := none) hrep hg (flds_inP (q := [.fld i]) rfl hrf) nofun
    rw [hrf] at k1
    simp only [Option.some.injEq, Prod.mk.injEq, true_and] at k1
    obtain ⟨rfl, _⟩ := k1
    have h1' : u.agg = false → one (cv (a.eval x) (kk + 0)) := fun ha => rep_one k2 nofun ha
    exact endVp (fq := none') hS hA hN h1 (fun _ => isV_valOf h1') (rep_s (rep_cells (fun j hj => (valOf_cv h1' j hj).symm) k2)) (fun _ hb => hb) hr
  · simp [RM.run] at h1
  · rename_i u mu z hm1 hm2 hT hg
    split at h1
    · rename_i r p
      obtain ⟨kk, f1, f2, hr⟩ := key hT hg
      refine endOp (fq := none') hS hA hN rfl h1 ?_ (fun _ hb => hb) hr
      obtain ⟨_, t0, m0, x0, d1, d2, d3, d4, c', ad, d5, d6⟩ := hd
      intro t1 m1 x1 h2
      rw [d1] at h2
      cases h2
      have hrf := rs_fld (w := w) (c := c') (ad := ad) f1
      refine ⟨ownP_app d2 d3 (flds_ownP (q := [.fld i]) rfl hrf), inP_app d2 d4 (flds_inP (q := [.fld i]) rfl hrf), u, fun j => c' (kk + j), ad.map fun q => (q.1, q.2 + kk), (rs_app d5).trans hrf, ?_⟩
      refine valOf_congr fun j hj => ?_
      have ha : t.agg = true := by cases t <;> first | rfl | (simp [fldT] at f1)
      rw [d6]
      exact valOf_cv (fun hc => by rw [ha] at hc; cases hc) _ (by omega)
    · simp [RM.run] at h1
  · simp [RM.run] at h1

theorem inB_iff {i : Int} {n : Nat} (h : inB i n = true) : 0 ≤ i ∧ i < n := by
  simpa [inB] using h

theorem inR_iff {l h : Int} {n : Nat} (h1 : inR l h n = true) : 0 ≤ l ∧ l ≤ h ∧ h ≤ n := by
  simpa [inR] using h1

theorem op_index {T : TypeId} {x i : Operand} (hE : EnvTy P env) (ho : o.op = .index T x i) (hS : SR e F w st V fp none') (hA : AR env gh a V) (hN : Nxt env gh e K res next) (h : (evOp env o).run C st K = some res) : wpp P o a w next := by
  simp only [evOp, ho] at h
  obtain ⟨kd, n, h1, e1, r1⟩ := rdInt_inv hS hA h
  obtain ⟨t, m, y, src, h2, hd, _⟩ := rdV_inv hS hA h1
  obtain ⟨hv, hm, fq, hrep, _⟩ := hd.rep hS
  cases t with
  | str =>
    dsimp only at h2
    split at h2
    · rename_i hT
      simp only [RM.run] at h2
      cases hb : inB n (List.length y) with
      | false => rw [hb] at h2; cases h2
      | true =>
        rw [hb] at h2
        have hb' := inB_iff hb
        have e2 := (rep_str hv hm hrep).1
        have hlt : n.toNat < List.length (y : List UInt8) := by omega
        refine endVp (v := .int .u8 (bt y n)) hS hA hN h2 (fun _ => rfl) (mk_int ?_) (fun _ hb => hb) ?_
        · have : ((List.getD y n.toNat (0 : UInt8)).toNat) < 256 := UInt8.toNat_lt _
          unfold bt
          constructor
          · show IntKind.u8.min ≤ _
            have : IntKind.u8.min = 0 := by decide
            omega
          · show _ ≤ IntKind.u8.max
            have : IntKind.u8.max = 255 := by decide
            omega
        · have hget := str_get y n.toNat hlt
          intro w
          simp only [execOp, ho, e1, e2, Instr.index, asIntOf, Sem.run_bind, Sem.run_pure, Result.andThen_ok, run_underlying (wt_str (Env.is_ok hE hT)), hb'.1, if_true, hget, bt]
    · simp [RM.run] at h2
  | arr n0 u =>
    cases m with
    | s =>
    dsimp only at h2
    split at h2
    · rename_i hT
      simp only [RM.run] at h2
      cases hb : inB n n0 with
      | false => rw [hb] at h2; cases h2
      | true =>
        rw [hb] at h2
        have hb' := inB_iff hb
        obtain ⟨el, g1, g2⟩ := wt_arr (Env.is_ok hE hT)
        obtain ⟨cs, c1, c2, c3⟩ := agg_val hv rfl
        simp only [rep] at hrep
        obtain ⟨hn, fs, _, _, r⟩ := hrep
        have hlt : n.toNat < n0 := by omega
        have hri := r n.toNat hlt
        have h1' : u.agg = false → one (cv (a.eval x) (n.toNat * u.size + 0)) := fun ha => rep_one hri nofun ha
        have hle : n.toNat * u.size + u.size ≤ cs.size := by
          rw [c2]
          simp only [Ty.size]
          calc n.toNat * u.size + u.size = (n.toNat + 1) * u.size := by rw [Nat.add_mul, Nat.one_mul]
            _ ≤ n0 * u.size := Nat.mul_le_mul_right _ hlt
        have hp := fun w => run_part (P := P) (w := w) (cs := cs) g2 hle
        simp only [c3] at hp
        refine endVp (fq := none') hS hA hN h2 (fun _ => isV_valOf h1') (rep_s (rep_cells (fun j hj => (valOf_cv h1' j hj).symm) hri)) (fun _ hb => hb) ?_
        rw [c1] at hp
        intro w
        simp only [execOp, ho, e1, c1, Instr.index, asIntOf, Sem.run_bind, Sem.run_pure, Result.andThen_ok, run_underlying g1, hb', and_self, if_true, run_sizeOf g2, hp]
    · simp [RM.run] at h2
    | _ => simp [RM.run] at h2
  | _ => simp [RM.run] at h2

theorem idxArr_ok {T : TypeId} {x i : Operand} {kd : IntKind} {n : Int} {r : Nat} {p : List PE} (hE : EnvTy P env) (ho : o.op = .indexAddr T x i) (hS : SR e F w st V fp none') (hA : AR env gh a V) (hN : Nxt env gh e K res next) (e1 : a.eval i = .int kd n) (hal : AlOk w st V r p (a.eval x)) (h2 : (idxArr env o T n r p).run C st K = some res) : wpp P o a w next := by
  unfold idxArr at h2
  simp only [atP, RM.run] at h2
  split at h2
  · rename_i t0 m0 x0 hr
    split at h2
    · rename_i t mu y hg
      split at h2
      · rename_i n0 u y
        split at h2
        · rename_i hT
          simp only [Bool.and_eq_true, Bool.not_eq_true'] at hT
          simp only [RM.run] at h2
          cases hb : inB n n0 with
          | false => rw [hb] at h2; cases h2
          | true =>
            rw [hb] at h2
            have hb' := inB_iff hb
            obtain ⟨b', k', fold, f1, f2, f3, f4, P', f5, f6⟩ := place_info hS hal hr hg
            obtain ⟨el, g1, g2⟩ := wt_arr (Env.is_ok hE hT.1)
            have hlen : List.length (y : List u.I) = n0 := by
              cases mu with
              | j => cases hT.2
              | _ => simp only [rep] at f5; exact f5.1
            refine endOp (fq := none') (v := .pointer (some ⟨b', k' + n.toNat * u.size, none⟩)) hS hA hN rfl h2 ?_ (fun _ hb => hb) ?_
            · intro t1 m1 x1 h3
              rw [hr] at h3
              cases h3
              refine ⟨rootB_app (hal _ _ _ hr).1, ownP_app hg f3 ?_, inP_app hg f4 ?_, u, fun j => rowW w b' k' (n.toNat * u.size + j), b', k' + n.toNat * u.size, ?_, rfl⟩
              · simp only [ownP]; exact ⟨hT.2, trivial⟩
              · simp only [inP]; exact ⟨by rw [hlen]; omega, trivial⟩
              · rw [rs_app f2]
                simp only [rs, Option.map_some]
            · intro w
              simp only [execOp, ho, e1, f1, Instr.indexAt, asIntOf, Instr.sureAddr, Sem.run_bind, Sem.run_pure, Result.andThen_ok, run_underlying g1, hb', and_self, if_true, run_sizeOf g2, addr_add]
        · simp [RM.run] at h2
      · simp [RM.run] at h2
    · simp [RM.run] at h2
  · simp [RM.run] at h2

theorem op_indexAddr {T : TypeId} {x i : Operand} (hE : EnvTy P env) (ho : o.op = .indexAddr T x i) (hS : SR e F w st V fp none') (hA : AR env gh a V) (hN : Nxt env gh e K res next) (h : (evOp env o).run C st K = some res) : wpp P o a w next := by
  simp only [evOp, ho] at h
  obtain ⟨kd, n, h1, e1, r1⟩ := rdInt_inv hS hA h
  have hgen : ∀ {u : Ty} {et : TypeId} {A : Addr} {len cap : Nat}, env.is T (.sl et u) = true → a.eval x = .slice (some A) len cap → 0 ≤ n → n < len → ∀ w, (execOp a.eval o).run P w = .ok (.value (.pointer (some (A.add (n.toNat * u.size))))) w := by
    intro u et A len cap hT hx h0 hn
    obtain ⟨g1, g2⟩ := wt_sl (Env.is_ok hE hT)
    intro w
    simp only [execOp, ho, e1, hx, Instr.indexAt, asIntOf, Sem.run_bind, Sem.run_pure, Result.andThen_ok, run_underlying g1, h0, hn, and_self, if_true, run_sizeOf g2]
  have hsl : ∀ {t : Ty} {m : Md} {y : t.I} {src : Src}, DataX F w st V (a.eval x) t m y src → (idxA env o T n t m y src).run C st K = some res → wpp P o a w next := by
    intro t m y src hd h2
    obtain ⟨hv, hm, fq, hrep, _⟩ := hd.rep hS
    unfold idxA at h2
    split at h2
    · rename_i et u y
      split at h2
      · rename_i hT
        simp only [Bool.and_eq_true, Bool.not_eq_true'] at hT
        simp only [RM.run] at h2
        cases hb : inB n (List.length y) with
        | false => rw [hb] at h2; cases h2
        | true =>
          rw [hb] at h2
          have hb' := inB_iff hb
          have hlt : n.toNat < List.length (y : List u.I) := by omega
          have hval : a.eval x = cv (a.eval x) 0 := by
            have h2 : a.eval x = valOf (.sl et u) (cv (a.eval x)) := hv
            simpa only [valOf, Ty.agg, Bool.false_eq_true, if_false] using h2
          simp only [rep] at hrep
          obtain ⟨A, cap, q1, q2, q3, q4, q5⟩ := hrep
          cases A with
          | none => have := q4 rfl; omega
          | some A =>
            obtain ⟨hsp, q6, q7⟩ := q5 A rfl
            replace hsp := hsp (by omega)
            obtain ⟨b, k, sp⟩ := A
            simp only at hsp
            subst hsp
            have hus : u.size ≠ 0 := fun hc => by rw [hc] at hT; cases hT.2
            rcases q6 with q6 | ⟨q6, q8⟩
            · rcases Nat.mul_eq_zero.1 q6 with q6 | q6
              · omega
              · exact absurd q6 hus
            · have hr := hgen hT.1 (hval.trans q1) hb'.1 hb'.2
              rw [addr_add] at hr
              refine endVp (fq := none') hS hA hN h2 (fun _ => ?_) ?_ (fun _ hb => hb) hr
              · simp only [isV, valOf, Ty.agg, Bool.false_eq_true, if_false]; rfl
              · simp only [rep]
                refine ⟨_, rfl, _, rfl, rfl, q6, ?_, ?_⟩
                · obtain ⟨cs, el, fz, p1, p2, p3⟩ := q8
                  refine ⟨cs, el, fz, p1, ?_, p3⟩
                  have : (n.toNat + 1) * u.size ≤ List.length y * u.size := Nat.mul_le_mul_right _ hlt
                  rw [Nat.add_mul, Nat.one_mul] at this
                  show k + n.toNat * u.size + u.size ≤ cs.size
                  simp only at p2
                  omega
                · exact q7 n.toNat hlt
      · simp [RM.run] at h2
    · rename_i et u m' y
      split at h2
      · rename_i r p hT _
        simp only [RM.run] at h2
        cases hb : inB n (List.length y) with
        | false => rw [hb] at h2; cases h2
        | true =>
          rw [hb] at h2
          have hb' := inB_iff hb
          have hlt : n.toNat < List.length (y : List u.I) := by omega
          obtain ⟨_, t0, m0, x0, d1, d2, d3, d4, c', ad, d5, d6⟩ := hd
          simp only [memP, RM.run, d1, cond_true] at h2
          split at h2
          · rename_i hrb
            have hrr := hS.sv r
            rw [d1] at hrr
            obtain ⟨c2, ad2, fp2, b1, b2, b3⟩ := rep_get (ad := none) hrr.2 d2 d4 nofun
            rw [d5] at b1
            simp only [Option.some.injEq, Prod.mk.injEq, true_and] at b1
            obtain ⟨rfl, rfl⟩ := b1
            simp only [rep] at b2
            obtain ⟨A, cap, q1, q2, q3, q4, q5⟩ := b2
            cases A with
            | none => have := q4 rfl; omega
            | some A =>
              obtain ⟨hsp, q6, q7, fs, q8, q9, q10⟩ := q5 A rfl
              replace hsp := hsp (by omega)
              obtain ⟨b, k, sp⟩ := A
              simp only at hsp
              subst hsp
              have hval : a.eval x = c' 0 := by
                rw [d6]
                simp only [valOf, Ty.agg, Bool.false_eq_true, if_false]
              have hr := hgen hT (hval.trans q1) hb'.1 hb'.2
              rw [addr_add] at hr
              refine endOp (fq := none') hS hA hN rfl h2 ?_ (fun _ hb => hb) hr
              intro t1 m1 x1 h3
              rw [d1] at h3
              cases h3
              refine ⟨hrb, ownP_app d2 d3 (by simp [ownP]), inP_app d2 d4 (by simp only [inP]; exact ⟨hlt, trivial⟩), u, rowW w b (k + n.toNat * u.size), b, k + n.toNat * u.size, ?_, rfl⟩
              rw [rs_app d5]
              simp only [rs, q1]
          · simp [RM.run] at h2
      · simp [RM.run] at h2
    · simp [RM.run] at h2
  obtain ⟨sv, h2, hx⟩ := rdO_inv h1
  have hder : ∀ sv, (derefX sv (self env x) fun t m y src => idxA env o T n t m y src).run C st K = some res → ((∃ t, x = .tmp t ∧ t < env.n ∧ sv = st (env.b + t)) ∨ (∃ c, x = .const c ∧ sv = cst env T c) ∨ (∃ f, x = .func f ∧ sv = .fn f [] [])) → wpp P o a w next := by
    intro sv h2 hx
    have h3 : (rdX env T x fun t m y src => idxA env o T n t m y src).run C st K = some res := by
      unfold rdX rdO
      rcases hx with ⟨s, rfl, hs, rfl⟩ | ⟨c, rfl, rfl⟩ | ⟨f, rfl, rfl⟩
      · have : Nat.blt s env.n = true := Nat.ble_eq_true_of_le hs
        simp only [this]
        exact h2
      · exact h2
      · exact h2
    obtain ⟨t, m, y, src, h4, hd, _⟩ := rdX_inv hS hA h3
    exact hsl hd h4
  split at h2
  · rename_i r p
    have hal : AlOk w st V r p (a.eval x) := by
      rcases hx with ⟨s, rfl, hs, h3⟩ | ⟨c, rfl, h3⟩ | ⟨f, rfl, h3⟩
      · have hev : a.eval (.tmp s) = V (env.b + s) := hA.tmps s hs
        have hsv := hS.sv (env.b + s)
        rw [← h3] at hsv
        rw [hev]
        exact hsv
      · unfold cst at h3; (repeat' split at h3) <;> cases h3
      · cases h3
    exact idxArr_ok hE ho hS hA hN e1 hal h2
  · rcases rdP_inv hS hA h2 with ⟨r, p, h3, hal⟩ | ⟨_, _, _, _, h3, _⟩
    · exact idxArr_ok hE ho hS hA hN e1 hal h3
    · simp [RM.run] at h3
  · exact hder _ h2 hx

end
end Go.Trm
