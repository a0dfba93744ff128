import Derived.Test.YtiooemenojlbjaaGreatTrmOps14
set_option linter.unusedVariables false
set_option linter.unusedSimpArgs false
namespace Go.Trm

theorem pre_refl : ∀ p : List PE, pre p p = true
  | [] => rfl
  | .fld i :: p => by simp only [pre, Nat.beq_refl, cond_true]; exact pre_refl p
  | .der :: p => by simp only [pre]; exact pre_refl p
  | .idx _ :: p => by simp only [pre]; exact pre_refl p
theorem stays_refl {p : List PE} (h : p ≠ []) : stays p p = true := by
  unfold stays
  rw [pre_refl]
  cases p with
  | nil => exact absurd rfl h
  | cons _ _ => rfl

section
variable {P : Program} {env : Env} {e : Entry} {F : Blks} {w : World} {st : St} {V : Nat → Value} {fp : Nat → Blks} {fl : Blks} {a : Act} {o : Oper} {R : Type} {K : Unit → St → Option R} {res : R} {C : Cx R} {gh : Nat → Value} {next : Act → World → Prop} {Q : Exit → Act → World → Prop}

/-- a place that was filled is there as it was -/
theorem again {r : Nat} {p : List PE} {t : Ty} {m : Md} {x : t.I} {u : Ty} {mu : Md} {y : u.I} {m' : Md} {x' : t.I} {c' : Cells} {ad : Option (Nat × Nat)} {fold : Blks} (hS : SR e F w st V fp fl) (hr : st r = .v t m x) (P' : Put F w t m x (V r) (fp r) p u c' ad fold)
    (hi : inP t x p) (ho : ownP t m p) (hrs : rs w t (cv (V r)) none p = some (u, c', ad)) (hset : setP t m x p u mu y = some (m', x')) (hb : p = [] ∨ (p ≠ [] ∧ rootB t p = true)) :
    inP t x' p ∧ ownP t m' p ∧ ∃ c2, rs w t (cv (V r)) none p = some (u, c2, ad) := by
  rcases hb with rfl | ⟨hp, hb⟩
  · exact ⟨by simp [inP], by simp [ownP], _, hrs⟩
  · have hrr := hS.sv r
    rw [hr] at hrr
    cases ad with
    | none =>
      exfalso
      cases p with
      | nil => exact hp rfl
      | cons q p =>
        cases t with
        | ptr T t => cases q with
          | der =>
            simp only [rs] at hrs
            split at hrs
            · have := rs_isSome hrs; cases this
            · cases hrs
          | _ => simp [rootB] at hb
        | sl T t => cases q with
          | idx i =>
            simp only [rs] at hrs
            split at hrs
            · have := rs_isSome hrs; cases this
            · cases hrs
          | _ => simp [rootB] at hb
        | _ => cases q <;> simp [rootB] at hb
    | some z =>
      obtain ⟨b, k⟩ := z
      have hat := chgW_refl w u (some (b, k))
      have hchg : Chg F w w (fp r) u (some (b, k)) := ⟨fun b' hb' _ => hat.1 b' hb', hat.2.1, hat.2.2, fun hc => hS.notF _ _ (P'.lies _ _ rfl).1 hc⟩
      exact keepS hrr.2 hi ho hrs hset hchg (stays_refl hp) hb hi ho hrs

theorem wrL_len {β : Type} {y zs : List β} {lo : Nat} (h : lo + zs.length ≤ y.length) : (wrL y lo zs).length = y.length := by
  unfold wrL
  simp only [List.length_append, List.length_take, List.length_drop]
  omega
theorem wrL_get {β : Type} {y zs : List β} {lo i : Nat} {d : β} (h : lo + zs.length ≤ y.length) : (wrL y lo zs).getD i d = if lo ≤ i ∧ i < lo + zs.length then zs.getD (i - lo) d else y.getD i d := by
  unfold wrL
  have hl : (y.take lo).length = lo := by rw [List.length_take]; omega
  rw [append_get, hl, append_get]
  by_cases h1 : i < lo
  · rw [if_pos h1, if_neg (by omega)]
    simp only [List.getD_eq_getElem?_getD, List.getElem?_take, if_pos h1]
  · rw [if_neg h1]
    by_cases h2 : i < lo + zs.length
    · rw [if_pos (by omega), if_pos (by omega)]
    · rw [if_neg (by omega), if_neg (by omega)]
      simp only [List.getD_eq_getElem?_getD, List.getElem?_drop]
      congr 2
      omega

/-- part of a row is filled anew -/
theorem range_ok {et : TypeId} {t : Ty} {m : Md} {y zs : List t.I} {c : Cells} {f1 : Blks} {news : List Value} {lo b k cap : Nat} (hS : SR e F w st V fp fl) (hr : rep F w (.sl et t) (.o m) y c f1) (h1 : ∀ b, f1 b → fl b)
    (h0 : c 0 = .slice (some ⟨b, k, none⟩) y.length cap) (hn : news.length = zs.length * t.size) (hlo : lo + zs.length ≤ y.length) (hz : ∀ i, i < zs.length → rep F w t m (zs.getD i t.dflt) (fun j => news.getD (i * t.size + j) undef) none') :
    SR e F (w.setCells b (k + lo * t.size) news) st V fp fl ∧ rep F (w.setCells b (k + lo * t.size) news) (.sl et t) (.o m) (wrL y lo zs) c f1 := by
  simp only [rep] at hr
  obtain ⟨A, cap', q1, q2, q3, q4, q5⟩ := hr
  rw [h0] at q1
  simp only [Value.slice.injEq] at q1
  obtain ⟨rfl, _, rfl⟩ := q1
  obtain ⟨hsp, p1, p2, fs1, d1, s1, r1⟩ := q5 _ rfl
  simp only at p1 p2 s1 r1
  obtain ⟨cs, el, fz, c1, c2, c3⟩ := p2
  have hcap : (lo + zs.length) * t.size ≤ cap * t.size := Nat.mul_le_mul_right _ (by omega)
  have hoff : k + lo * t.size + news.length ≤ cs.size := by
    rw [hn]
    rw [Nat.add_mul] at hcap
    omega
  obtain ⟨cs', k1, k2, k3, k4, k5, k6⟩ := setCells_heap (vs := news) (o := k + lo * t.size) c1 hoff
  have hsame : ∀ b', b' ≠ b → Same w (w.setCells b (k + lo * t.size) news) b' := k5
  have hbF : ∀ b', F b' → b' ≠ b := fun b' hb' hc => hS.flF b (h1 b p1) (hc ▸ hb')
  have hlen := wrL_len (y := y) (zs := zs) hlo
  refine ⟨hS.world (fun b' _ hb' => hsame b' (fun hc => hb' (hc ▸ h1 b p1))) ⟨still_set _ _ _ _, Nat.le_of_eq k6.symm⟩ (fun b' hb' => ⟨.inl hb', by rw [k6]; exact hS.flH b' hb'⟩), ?_⟩
  simp only [rep]
  refine ⟨some ⟨b, k, none⟩, cap, by rw [hlen]; exact h0, by rw [hlen]; exact q2, q3, nofun, fun A hA => ?_⟩
  cases hA
  refine ⟨fun _ => rfl, p1, ⟨cs', el, fz, k1, by rw [k2]; exact c2, fun hw => by rw [k2]; exact c3 hw⟩, fun i b' => fs1 i b' ∧ ¬ (lo ≤ i ∧ i < lo + zs.length), ⟨fun i j hij b' hb hb' => d1.disj i j hij b' hb.1 hb'.1⟩, fun i b' hb' => s1 i b' hb'.1, fun i hi => ?_⟩
  rw [hlen] at hi
  rw [wrL_get hlo]
  by_cases hin : lo ≤ i ∧ i < lo + zs.length
  · rw [if_pos hin]
    have hi2 : i - lo < zs.length := by omega
    refine rep_fp (fun b' hb' => hb'.elim) (rep_cells (fun j hj => ?_) (rep_frame (fun _ hb => hb) (fun b' hb' => hsame b' (hbF b' hb')) (fun b' hb' => hb'.elim) (hz (i - lo) hi2)))
    have := idx_lt hi2 hj
    have e1 : k + i * t.size + j = k + lo * t.size + ((i - lo) * t.size + j) := by
      have : i * t.size = lo * t.size + (i - lo) * t.size := by rw [← Nat.add_mul]; congr 1; omega
      omega
    rw [row_new k1, e1, k3 _ (by rw [hn]; exact this)]
  · rw [if_neg hin]
    refine rep_fp (fun b' hb' => ⟨hb', hin⟩) (rep_cells (fun j hj => ?_) (rep_frame (fun _ hb => hb) (fun b' hb' => hsame b' (hbF b' hb')) (fun b' hb' => hsame b' (s1 i b' hb').2) (r1 i hi)))
    rw [row_new k1, row_new c1]
    refine (k4 _ ?_).symm
    by_cases hlt : i < lo
    · left
      have := idx_lt hlt hj
      omega
    · right
      have h2 : (lo + zs.length) * t.size ≤ i * t.size := Nat.mul_le_mul_right _ (by omega)
      rw [hn]
      rw [Nat.add_mul] at h2
      omega

theorem setCells_nil (w : World) (b o : Nat) : w.setCells b o [] = w := rfl

theorem memP0_inv {α : Type} {r : Nat} {p : List PE} {k : RM α} {Kk : α → St → Option R} {t : Ty} {m : Md} {x : t.I} (hr : st r = .v t m x) (h : (memP0 r p k).run C st Kk = some res) : (k.run C st Kk = some res) ∧ (p = [] ∨ (p ≠ [] ∧ rootB t p = true)) := by
  unfold memP0 at h
  split at h
  · exact ⟨h, .inl rfl⟩
  · simp only [memP, RM.run, hr] at h
    split at h
    · rename_i hb
      exact ⟨h, .inr ⟨nofun, hb⟩⟩
    · simp [RM.run] at h

/-- of a slice that is a part of what lies at a place, some elements are filled anew -/
theorem fill_inv {r : Nat} {p : List PE} {lo : Nat} {t0 : Ty} {m0 : Md} {x0 : t0.I} {et : TypeId} {t : Ty} {m : Md} {y zs : List t.I} {c1 : Cells} {ad : Option (Nat × Nat)} {A : Option Addr} {cap : Nat} {news : List Value} {k : RM Unit}
    (hS : SR e F w st V fp none') (hr : st r = .v t0 m0 x0) (hg : getP t0 m0 x0 p = some ⟨.sl et t, .o m, y⟩) (ho : ownP t0 m0 p) (hi : inP t0 x0 p) (hrs : rs w t0 (cv (V r)) none p = some (.sl et t, c1, ad)) (hb : p = [] ∨ (p ≠ [] ∧ rootB t0 p = true))
    (h0 : c1 0 = .slice A y.length cap) (hn : news.length = zs.length * t.size) (hlo : lo + zs.length ≤ y.length) (hz : ∀ i, i < zs.length → rep F w t m (zs.getD i t.dflt) (fun j => news.getD (i * t.size + j) undef) none')
    (h : (take (some (r, p)) (setAt r p (.sl et t) (.o m) (wrL y lo zs) k)).run C st K = some res) :
    ∃ w' st' fp', k.run C st' K = some res ∧ SR e F w' st' V fp' none' ∧ (∀ b o sp, A = some ⟨b, o, sp⟩ → zs.length ≠ 0 → sp = none ∧ w' = w.setCells b (o + lo * t.size) news ∧ ∃ cs el fz, w.heap[b]? = some (.cells cs el fz) ∧ o + lo * t.size + news.length ≤ cs.size ∧ holdsW w b (o + lo * t.size + news.length) true) ∧ (zs.length = 0 → w' = w) := by
  have hrr := hS.sv r
  rw [hr] at hrr
  obtain ⟨fold, P⟩ := put_of hrr.2 (hS.inH r) hS.inF hi ho hrs
  obtain ⟨mo, yo, g1, g2⟩ := P.old
  rw [hg] at g1
  simp only [Option.some.injEq] at g1
  cases g1
  have hm0 : m0 ≠ .j := fun hc => by subst hc; have := getP_j hg; cases this
  simp only [take, RM.run, hr, hg] at h
  split at h
  · rename_i m1 x1 hset
    simp only [setAt, RM.run, put_same] at h
    have hS1 := hS.place hr hm0 P hi ho hrs hset (fun _ hb => hb) rfl (Still.refl _) (chgW_refl _ _ _) (fq := fun _ => False) (fl' := fun b => none' b ∨ fold b) rep_j (fun _ hb => hb.elim) (fun b hb => ⟨hb, fun h => h⟩) (fun b hb => .inl hb)
    obtain ⟨i1, o1, c2, r1⟩ := again hS hr P hi ho hrs hset hb
    rw [hrs] at r1
    simp only [Option.some.injEq, Prod.mk.injEq, true_and] at r1
    obtain ⟨rfl, _⟩ := r1
    have key : ∃ w', SR e F w' ((st.kill r p).put r (.v t0 m1 x1)) V (fun i b => (i ≠ r ∧ fp i b) ∨ (i = r ∧ ((fp r b ∧ ¬ fold b) ∨ False))) (fun b => none' b ∨ fold b) ∧ rep F w' (.sl et t) (.o m) (wrL y lo zs) c1 fold ∧ (∀ b, ¬ fold b → Same w w' b) ∧ w'.heap.size = w.heap.size ∧ Still w w' ∧
        (∀ b o sp, A = some ⟨b, o, sp⟩ → zs.length ≠ 0 → sp = none ∧ w' = w.setCells b (o + lo * t.size) news ∧ ∃ cs el fz, w.heap[b]? = some (.cells cs el fz) ∧ o + lo * t.size + news.length ≤ cs.size ∧ holdsW w b (o + lo * t.size + news.length) true) ∧ (zs.length = 0 → w' = w) := by
      by_cases hz0 : zs.length = 0
      · have : zs = [] := List.eq_nil_of_length_eq_zero hz0
        subst this
        refine ⟨w, hS1, ?_, fun _ _ => rfl, rfl, Still.refl _, fun _ _ _ _ hc => absurd rfl hc, fun _ => rfl⟩
        have : wrL y lo [] = y := by unfold wrL; simp
        rw [this]
        exact g2
      · have g3 := g2
        simp only [rep] at g3
        obtain ⟨A', cap', q1, q2, q3, q4, q5⟩ := g3
        rw [h0] at q1
        simp only [Value.slice.injEq, true_and] at q1
        obtain ⟨rfl, rfl⟩ := q1
        cases A with
        | none => have := q4 rfl; omega
        | some A =>
          obtain ⟨hsp, p1, p2, _⟩ := q5 A rfl
          replace hsp := hsp (by omega)
          obtain ⟨b, o, sp⟩ := A
          simp only at hsp p1 p2
          subst hsp
          obtain ⟨hS2, hrep⟩ := range_ok (lo := lo) hS1 g2 (fun b hb => .inr hb) h0 hn hlo hz
          have p2' := p2
          obtain ⟨cs, el, fz, c1', c2', c3'⟩ := p2
          have hcap : (lo + zs.length) * t.size ≤ cap * t.size := Nat.mul_le_mul_right _ (by omega)
          have hoff : o + lo * t.size + news.length ≤ o + cap * t.size := by
            rw [hn]
            rw [Nat.add_mul] at hcap
            omega
          obtain ⟨cs', k1, k2, k3, k4, k5, k6⟩ := setCells_heap (vs := news) (o := o + lo * t.size) c1' (by omega)
          refine ⟨_, hS2, hrep, fun b' hb' => k5 b' (fun hc => hb' (hc ▸ p1)), k6, still_set _ _ _ _, fun b' o' sp' hA hne => ?_, fun hc => absurd hc hz0⟩
          simp only [Option.some.injEq, Addr.mk.injEq] at hA
          obtain ⟨rfl, rfl, rfl⟩ := hA
          exact ⟨rfl, rfl, cs, el, fz, c1', by omega, cs, el, fz, c1', by omega, fun hw => c3' hw⟩
    obtain ⟨w', hS2, hrep2, hsm, hsz, hstl, hfin, hfin0⟩ := key
    split at h
    · rename_i u mu' y0 hg1
      split at h
      · rename_i y' hc
        split at h
        · rename_i m2 x2 hset2
          simp only [RM.run] at h
          have hrr1 := hS1.sv r
          rw [put_same] at hrr1
          obtain ⟨c3, r3, rc3⟩ := rs_same hrr1.2 i1 o1 (fun b hb => hsm b (fun hf => by
            rcases hb with ⟨hne, _⟩ | ⟨_, ⟨_, hnf⟩ | hff⟩
            · exact hne rfl
            · exact hnf hf
            · exact hff)) (fun _ _ => rfl) hrs
          have hrr2 := hS2.sv r
          rw [put_same] at hrr2
          obtain ⟨fold2, P2⟩ := put_of hrr2.2 (hS2.inH r) hS2.inF i1 o1 r3
          obtain ⟨mo2, yo2, g5, g6⟩ := P2.old
          rw [hg1] at g5
          simp only [Option.some.injEq] at g5
          cases g5
          obtain ⟨eu, hy⟩ := castI_some hc
          simp only at hy
          subst hy
          rcases hb with rfl | ⟨hp, hb⟩
          · simp only [getP, Option.some.injEq] at hg
            cases hg
            simp only [rs, Option.some.injEq, Prod.mk.injEq, true_and] at hrs
            obtain ⟨rfl, _⟩ := hrs
            simp only [setP] at hset2
            split at hset2
            case h_2 => cases hset2
            rename_i y2 hy2
            have h8 := Option.some.inj (hc.symm.trans hy2)
            subst h8
            simp only [Option.some.injEq] at hset2
            obtain ⟨rfl, rfl⟩ := hset2
            have hS3 := hS2.fillV (d := r) (v := V r) (t := .sl et t) (m := .o m) (x := wrL y lo zs) (fq := fold) (fl' := none') (fun _ => rfl) (fun _ => hrr.1 hm0) hrep2 (fun b hb => .inr hb) (fun _ hb => hb.elim)
            have hV : updV V r (V r) = V := by
              funext i
              unfold updV
              split
              · rename_i hh; rw [hh]
              · rfl
            rw [hV] at hS3
            exact ⟨w', _, _, h, hS3, hfin, hfin0⟩
          · have hm1 : m1 ≠ .j := own_nj hb o1
            have hnr : newRow w' c3 ad = c3 := by
              cases ad with
              | none => rfl
              | some bo => obtain ⟨b, o⟩ := bo; exact ((P2.lies b o rfl).2.2.2).symm
            have hS3 := hS2.place put_same hm1 P2 i1 o1 r3 hset2 (fun _ hb => hb) rfl (Still.refl _) (chgW_refl _ _ _) (fq := fold) (fl' := none') (by rw [hnr]; exact rep_cells rc3 hrep2) (fun b hb => .inr (.inr hb)) (fun _ hb => hb.elim) (fun b hb => .inl hb)
            exact ⟨w', _, _, h, hS3, hfin, hfin0⟩
        · simp [RM.run] at h
      · simp [RM.run] at h
    · simp [RM.run] at h
  · simp [RM.run] at h

theorem zero_at {z : Array Value} {u : Ty} {n i j : Nat} (hz : z = (dcells u).toArray) (hi : i < n) (hj : j < u.size) : (Builtin.zeroCells z n).toList.getD (i * u.size + j) undef = (dcells u).getD j undef := by
  have hs : z.size = u.size := by rw [hz]; simp [dcells_length]
  have hlt := idx_lt hi hj
  have hm : (i * u.size + j) % u.size = j := by rw [Nat.add_comm, Nat.add_mul_mod_self_right, Nat.mod_eq_of_lt hj]
  have h1 : (Builtin.zeroCells z n).toList.getD (i * u.size + j) undef = z[(i * u.size + j) % z.size]! := by
    simp [Builtin.zeroCells, List.getD, hs, hlt]
  rw [h1, hs, hm, hz]
  simp [List.getD, dcells_length, hj]

theorem op_clear {T : TypeId} {x : Operand} {c : Call} (hE : EnvTy P env) (ho : o.op = .call c) (hc : c.callee = .builtin .clear) (h1 : c.args.toList = [x]) (h2 : c.argTypes.toList = [T]) (hS : SR e F w st V fp none') (hA : AR env gh a V) (hN : Nxt env gh e K res next)
    (h : (evB env o .clear [x] [T]).run C st K = some res) : o.wp P a w next Q := by
  have e1 : c.args = #[x] := by apply Array.ext'; rw [h1]
  have e2 : c.argTypes = #[T] := by apply Array.ext'; rw [h2]
  have hrun : ∀ v w', (Builtin.clear_ #[T] o.type #[a.eval x]).run P w = .ok v w' → (execOp a.eval o).run P w = .ok (.value v) w' := by
    intro v w' hv
    simp only [execOp, ho, resolve, hc, e1, e2, Sem.run_bind, Sem.run_pure, Result.andThen_ok, invoke, builtin, List.map_toArray, List.map_cons, List.map_nil, hv]
  simp only [evB] at h
  obtain ⟨sv, hh, hx⟩ := rdO_inv h
  clear h
  have h := hh
  clear hh
  split at h
  · rename_i r p lo hi
    rcases hx with ⟨s, rfl, hs, h3⟩ | ⟨c, rfl, h3⟩ | ⟨f, rfl, h3⟩
    · have hev : a.eval (.tmp s) = V (env.b + s) := hA.tmps s hs
      have hsv := hS.sv (env.b + s)
      rw [← h3] at hsv
      have hr : ∃ t0 m0 x0, st r = .v t0 m0 x0 := by
        unfold memP0 at h
        split at h
        · simp only [atP, RM.run] at h
          split at h
          · rename_i t0 m0 x0 hr; exact ⟨t0, m0, x0, hr⟩
          · simp [RM.run] at h
        · simp only [memP, RM.run] at h
          split at h
          · rename_i t0 m0 x0 hr; exact ⟨t0, m0, x0, hr⟩
          · simp [RM.run] at h
      obtain ⟨t0, m0, x0, hr⟩ := hr
      obtain ⟨h, hb⟩ := memP0_inv hr h
      obtain ⟨a1, a2, u1, c1, ad, a3, e0, u0, A, n, cap, rfl, b1, b2, b3, b4, b5⟩ := hsv t0 m0 x0 hr
      simp only [atP, RM.run, hr] at h
      split at h
      · rename_i u mu y hg
        split at h
        · rename_i et u mu y
          split at h
          · rename_i hT
            simp only [RM.run] at h
            cases hq : inR lo hi (List.length y) with
            | false => rw [hq] at h; cases h
            | true =>
              rw [hq] at h
              have hrr := hS.sv r
              rw [hr] at hrr
              obtain ⟨c2, ad2, fp2, d1, d2, d3⟩ := rep_get (ad := none) hrr.2 hg a2 nofun
              rw [a3] at d1
              simp only [Option.some.injEq, Prod.mk.injEq] at d1
              obtain ⟨d0, rfl, rfl⟩ := d1
              cases d0
              have d2' := d2
              simp only [rep] at d2'
              obtain ⟨A', cap', q1, q2, q3, q4, q5⟩ := d2'
              rw [b1] at q1
              simp only [Value.slice.injEq] at q1
              obtain ⟨rfl, rfl, rfl⟩ := q1
              obtain ⟨g1, g2⟩ := wt_sl (Env.is_ok hE hT)
              obtain ⟨i', z', j1, j2, j3, j4, j5, j6⟩ := wt_info g2
              have hzc : z'.cells = (dcells u0).toArray := j6
              have hnl : (Builtin.zeroCells z'.cells (hi.toNat - lo.toNat)).toList.length = (List.replicate (hi.toNat - lo.toNat) u0.dflt).length * u0.size := by
                simp [Builtin.zeroCells, j6, dcells_length]
              obtain ⟨w', st', fp', k1, k2, k3, k4⟩ := fill_inv (news := (Builtin.zeroCells z'.cells (hi.toNat - lo.toNat)).toList) hS hr hg a1 a2 a3 hb b1 hnl (by simp; omega) (fun i hi2 => by
                have hi3 : i < hi.toNat - lo.toNat := by simpa using hi2
                have e5 : (List.replicate (hi.toNat - lo.toNat) u0.dflt).getD i u0.dflt = u0.dflt := by simp [List.getD, hi3]
                rw [e5]
                refine rep_dflt fun j hj => ?_
                exact zero_at hzc hi3 hj) h
              have hbd := inR_iff hq
              have fin : ∀ wz, wz = w' → (Builtin.clear_ #[T] o.type #[a.eval (.tmp s)]).run P w = .ok (.tuple #[]) wz → o.wp P a w next Q := fun wz hwz hrunc => by
                subst hwz
                exact endO (fq := fun _ => False) k2 hA hN rfl k1 trivial (fun _ hb => hb.elim) (hrun _ _ hrunc)
              rw [hev, b5] at fin
              by_cases hn0 : hi.toNat - lo.toNat = 0
              · refine fin w (k4 (by simpa using hn0)).symm ?_
                unfold cutVal
                rw [hn0]
                generalize (if cap = lo.toNat then A else A.map fun x => x.add (lo.toNat * u0.size)) = A2
                cases A2 <;> simp [Builtin.clear_, run_underlying g1, Result.andThen]
              · have hcl : cap ≠ lo.toNat := by omega
                cases A with
                | none => have := q4 rfl; omega
                | some A =>
                  obtain ⟨b, k, sp⟩ := A
                  obtain ⟨rfl, rfl, cs, el, fz, m1, m2, m3⟩ := k3 b k sp rfl (by simpa using hn0)
                  refine fin _ rfl ?_
                  have hst := run_storeCells_cells (P := P) b (k + lo.toNat * u0.size) (Builtin.zeroCells z'.cells (hi.toNat - lo.toNat)).toList 0 w (fun j hj => by
                    simp only [Nat.add_zero]
                    rw [cell_row m3 (k := k + lo.toNat * u0.size + j) (by omega)]; rfl)
                    (fun j hj => by simp only [Nat.add_zero]; exact not_frozen m3 (by omega)) (fun v hv => by
                      obtain ⟨q, hq1, rfl⟩ := List.getElem_of_mem hv
                      have hq2 : q < (hi.toNat - lo.toNat) * z'.cells.size := by simpa [Builtin.zeroCells] using hq1
                      have hz0 : 0 < z'.cells.size := by
                        rcases Nat.eq_zero_or_pos z'.cells.size with hc0 | hc0
                        · rw [hc0] at hq2; simp at hq2
                        · exact hc0
                      have : (Builtin.zeroCells z'.cells (hi.toNat - lo.toNat)).toList[q] = z'.cells[q % z'.cells.size]'(Nat.mod_lt _ hz0) := by
                        simp [Builtin.zeroCells, Nat.mod_lt _ hz0]
                      rw [this]
                      refine dcells_one u0 _ ?_
                      have h7 : z'.cells[q % z'.cells.size]'(Nat.mod_lt _ hz0) ∈ z'.cells.toList := by simp
                      have h8 : z'.cells.toList = dcells u0 := by rw [hzc]
                      rw [h8] at h7
                      exact h7)
                  have hcv : cutVal (some ⟨b, k, none⟩) cap lo.toNat hi.toNat u0.size = .slice (some ⟨b, k + lo.toNat * u0.size, none⟩) (hi.toNat - lo.toNat) (cap - lo.toNat) := by
                    unfold cutVal
                    rw [if_neg hcl, Option.map_some, addr_add]
                  rw [hcv]
                  obtain ⟨nn, hnn⟩ : ∃ nn, hi.toNat - lo.toNat = nn + 1 := ⟨hi.toNat - lo.toNat - 1, by omega⟩
                  rw [hnn] at hst ⊢
                  have hz5 : (zeroValue e0).run P w = .ok z' w := by rw [run_zero g2, ← j5]
                  simp [Builtin.clear_, run_underlying g1, hz5, hst, Result.andThen]
          · simp [RM.run] at h
        · simp [RM.run] at h
      · simp [RM.run] at h
    · unfold cst at h3; (repeat' split at h3) <;> cases h3
    · cases h3
  · simp [RM.run] at h
end
end Go.Trm
