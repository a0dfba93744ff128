import Derived.Test.YtaaichbahlpjlaaDoorTrmOps15
import Derived.Orders
set_option linter.unusedVariables false
set_option linter.unusedSimpArgs false
namespace Go.Trm
theorem zKoa : ∀ p : List PE, pre p p = true
 | [] => rfl
 | .fld i :: p => by simp only [pre, Nat.beq_refl, cond_true]; exact zKoa p
 | .der :: p => by simp only [pre]; exact zKoa p
 | .idx _ :: p => by simp only [pre]; exact zKoa p
theorem zqsa {p : List PE} (h : p ≠ []) : stays p p = true := by
 unfold stays
 rw [zKoa]
 cases p with
 | nil => exact absurd rfl h
 | cons _ _ => rfl
section
variable {P : Program} {env : Env} {e : Entry} {F : Blks} {w : World} {st : St} {V : Nat → Value} {fp : Nat → Blks} {fl : Blks} {a : Act} {o : Oper} {R : Type} {K : Unit → St → Option R} {res : R} {C : Cx R} {gh : Nat → Value} {next : Act → World → Prop} {Q : Exit → Act → World → Prop}
theorem again {r : Nat} {p : List PE} {t : Ty} {m : Md} {x : t.I} {u : Ty} {mu : Md} {y : u.I} {m' : Md} {x' : t.I} {c' : Cells} {ad : Option (Nat × Nat)} {fold : Blks} (hS : SR e F w st V fp fl) (hr : st r = .v t m x) (P' : Put F w t m x (V r) (fp r) p u c' ad fold)
  (hi : inP t x p) (ho : ownP t m p) (hrs : rs w t (cv (V r)) none p = some (u, c', ad)) (hset : setP t m x p u mu y = some (m', x')) (hb : p = [] ∨ (p ≠ [] ∧ rootB t p = true)) :
  inP t x' p ∧ ownP t m' p ∧ ∃ c2, rs w t (cv (V r)) none p = some (u, c2, ad) := by
 rcases hb with rfl | ⟨hp, hb⟩
 ·exact ⟨by simp [inP], by simp [ownP], _, hrs⟩
 ·have hrr := hS.sv r
  rw [hr] at hrr
  cases ad with
  | none =>
   exfalso
   cases p with
   | nil => exact hp rfl
   | cons q p =>
    cases t with
    | ptr T t => cases q with
     | der =>
      simp only [rs] at hrs
      split at hrs
      ·have := zwja hrs; cases this
      ·cases hrs
     | _ => simp [rootB] at hb
    | sl T t => cases q with
     | idx i =>
      simp only [rs] at hrs
      split at hrs
      ·have := zwja hrs; cases this
      ·cases hrs
     | _ => simp [rootB] at hb
    | _ => cases q <;> simp [rootB] at hb
  | some z =>
   obtain ⟨b, k⟩ := z
   have hat := zZka w u (some (b, k))
   have hchg : Chg F w w (fp r) u (some (b, k)) := ⟨fun b' hb' _ => hat.1 b' hb', hat.2.1, hat.2.2, fun hc => hS.notF _ _ (P'.lies _ _ rfl).1 hc⟩
   exact keepS hrr.2 hi ho hrs hset hchg (zqsa hp) hb hi ho hrs
theorem zLwa {β : Type} {y zs : List β} {lo : Nat} (h : lo + zs.length ≤ y.length) : (wrL y lo zs).length = y.length := by
 unfold wrL
 simp only [List.length_append, List.length_take, List.length_drop]
 omega
theorem zMwa {β : Type} {y zs : List β} {lo i : Nat} {d : β} (h : lo + zs.length ≤ y.length) : (wrL y lo zs).getD i d = if lo ≤ i ∧ i < lo + zs.length then zs.getD (i - lo) d else y.getD i d := by
 unfold wrL
 have hl : (y.take lo).length = lo := by rw [List.length_take]; omega
 rw [zdla, hl, zdla]
 by_cases h1 : i < lo
 ·rw [if_pos h1, if_neg (by omega)]
  simp only [List.getD_eq_getElem?_getD, List.getElem?_take, if_pos h1]
 ·rw [if_neg h1]
  by_cases h2 : i < lo + zs.length
  ·rw [if_pos (by omega), if_pos (by omega)]
  ·rw [if_neg (by omega), if_neg (by omega)]
   simp only [List.getD_eq_getElem?_getD, List.getElem?_drop]
   congr 2
   omega
theorem zxva {et : TypeId} {t : Ty} {m : Md} {y zs : List t.I} {c : Cells} {f1 : Blks} {news : List Value} {lo b k cap : Nat} (hS : SR e F w st V fp fl) (hr : rep F w (.sl et t) (.o m) y c f1) (h1 : ∀ b, f1 b → fl b)
  (h0 : c 0 = .slice (some ⟨b, k, none⟩) y.length cap) (hn : news.length = zs.length * t.size) (hlo : lo + zs.length ≤ y.length) (hz : ∀ i, i < zs.length → rep F w t m (zs.getD i t.dflt) (fun j => news.getD (i * t.size + j) undef) none') :
  SR e F (w.setCells b (k + lo * t.size) news) st V fp fl ∧ rep F (w.setCells b (k + lo * t.size) news) (.sl et t) (.o m) (wrL y lo zs) c f1 := by
 simp only [rep] at hr
 obtain ⟨A, cap', q1, q2, q3, q4, q5⟩ := hr
 rw [h0] at q1
 simp only [Value.slice.injEq] at q1
 obtain ⟨rfl, _, rfl⟩ := q1
 obtain ⟨hsp, p1, p2, fs1, d1, s1, r1⟩ := q5 _ rfl
 simp only at p1 p2 s1 r1
 obtain ⟨cs, el, fz, c1, c2, c3⟩ := p2
 have hcap : (lo + zs.length) * t.size ≤ cap * t.size := Nat.mul_le_mul_right _ (by omega)
 have hoff : k + lo * t.size + news.length ≤ cs.size := by
  rw [hn]
  rw [Nat.add_mul] at hcap
  omega
 obtain ⟨cs', k1, k2, k3, k4, k5, k6⟩ := zAea (vs := news) (o := k + lo * t.size) c1 hoff
 have hsame : ∀ b', b' ≠ b → Same w (w.setCells b (k + lo * t.size) news) b' := k5
 have hbF : ∀ b', F b' → b' ≠ b := fun b' hb' hc => hS.flF b (h1 b p1) (hc ▸ hb')
 have hlen := zLwa (y := y) (zs := zs) hlo
 refine ⟨hS.world (fun b' _ hb' => hsame b' (fun hc => hb' (hc ▸ h1 b p1))) ⟨zpka _ _ _ _, Nat.le_of_eq k6.symm⟩ (fun b' hb' => ⟨.inl hb', by rw [k6]; exact hS.flH b' hb'⟩), ?_⟩
 simp only [rep]
 refine ⟨some ⟨b, k, none⟩, cap, by rw [hlen]; exact h0, by rw [hlen]; exact q2, q3, nofun, fun A hA => ?_⟩
 cases hA
 refine ⟨fun _ => rfl, p1, ⟨cs', el, fz, k1, by rw [k2]; exact c2, fun hw => by rw [k2]; exact c3 hw⟩, fun i b' => fs1 i b' ∧ ¬ (lo ≤ i ∧ i < lo + zs.length), ⟨fun i j hij b' hb hb' => d1.disj i j hij b' hb.1 hb'.1⟩, fun i b' hb' => s1 i b' hb'.1, fun i hi => ?_⟩
 rw [hlen] at hi
 rw [zMwa hlo]
 by_cases hin : lo ≤ i ∧ i < lo + zs.length
 ·rw [if_pos hin]
  have hi2 : i - lo < zs.length := by omega
  refine zFga (fun b' hb' => hb'.elim) (zjaa (fun j hj => ?_) (ziaa (fun _ hb => hb) (fun b' hb' => hsame b' (hbF b' hb')) (fun b' hb' => hb'.elim) (hz (i - lo) hi2)))
  have := zWoa hi2 hj
  have e1 : k + i * t.size + j = k + lo * t.size + ((i - lo) * t.size + j) := by
   have : i * t.size = lo * t.size + (i - lo) * t.size := by rw [← Nat.add_mul]; congr 1; omega
   omega
  rw [zKja k1, e1, k3 _ (by rw [hn]; exact this)]
 ·rw [if_neg hin]
  refine zFga (fun b' hb' => ⟨hb', hin⟩) (zjaa (fun j hj => ?_) (ziaa (fun _ hb => hb) (fun b' hb' => hsame b' (hbF b' hb')) (fun b' hb' => hsame b' (s1 i b' hb').2) (r1 i hi)))
  rw [zKja k1, zKja c1]
  refine (k4 _ ?_).symm
  by_cases hlt : i < lo
  ·left
   have := zWoa hlt hj
   omega
  ·right
   have h2 : (lo + zs.length) * t.size ≤ i * t.size := Nat.mul_le_mul_right _ (by omega)
   rw [hn]
   rw [Nat.add_mul] at h2
   omega
theorem zpva (w : World) (b o : Nat) : w.setCells b o [] = w := rfl
theorem zdua {α : Type} {r : Nat} {p : List PE} {k : RM α} {Kk : α → St → Option R} {t : Ty} {m : Md} {x : t.I} (hr : st r = .v t m x) (h : (memP0 r p k).run C st Kk = some res) : (k.run C st Kk = some res) ∧ (p = [] ∨ (p ≠ [] ∧ rootB t p = true)) := by
 unfold memP0 at h
 split at h
 ·exact ⟨h, .inl rfl⟩
 ·simp only [memP, RM.run, hr] at h
  split at h
  ·rename_i hb
   exact ⟨h, .inr ⟨nofun, hb⟩⟩
  ·simp [RM.run] at h
theorem zkwa {r : Nat} {p : List PE} {lo : Nat} {t0 : Ty} {m0 : Md} {x0 : t0.I} {et : TypeId} {t : Ty} {m : Md} {y zs : List t.I} {c1 : Cells} {ad : Option (Nat × Nat)} {A : Option Addr} {cap : Nat} {news : List Value} {k : RM Unit}
  (hS : SR e F w st V fp none') (hr : st r = .v t0 m0 x0) (hg : getP t0 m0 x0 p = some ⟨.sl et t, .o m, y⟩) (ho : ownP t0 m0 p) (hi : inP t0 x0 p) (hrs : rs w t0 (cv (V r)) none p = some (.sl et t, c1, ad)) (hb : p = [] ∨ (p ≠ [] ∧ rootB t0 p = true))
  (h0 : c1 0 = .slice A y.length cap) (hn : news.length = zs.length * t.size) (hlo : lo + zs.length ≤ y.length) (hz : ∀ i, i < zs.length → rep F w t m (zs.getD i t.dflt) (fun j => news.getD (i * t.size + j) undef) none')
  (h : (take (some (r, p)) (setAt r p (.sl et t) (.o m) (wrL y lo zs) k)).run C st K = some res) :
  ∃ w' st' fp', k.run C st' K = some res ∧ SR e F w' st' V fp' none' ∧ (∀ b o sp, A = some ⟨b, o, sp⟩ → zs.length ≠ 0 → sp = none ∧ w' = w.setCells b (o + lo * t.size) news ∧ ∃ cs el fz, w.heap[b]? = some (.cells cs el fz) ∧ o + lo * t.size + news.length ≤ cs.size ∧ zIca w b (o + lo * t.size + news.length) true) ∧ (zs.length = 0 → w' = w) := by
 have hrr := hS.sv r
 rw [hr] at hrr
 obtain ⟨fold, P⟩ := zNsa hrr.2 (hS.inH r) hS.inF hi ho hrs
 obtain ⟨mo, yo, g1, g2⟩ := P.old
 rw [hg] at g1
 simp only [Option.some.injEq] at g1
 cases g1
 have hm0 : m0 ≠ .j := fun hc => by subst hc; have := zIpa hg; cases this
 simp only [take, RM.run, hr, hg] at h
 split at h
 ·rename_i m1 x1 hset
  simp only [setAt, RM.run, zoca] at h
  have hS1 := hS.place hr hm0 P hi ho hrs hset (fun _ hb => hb) rfl (Still.refl _) (zZka _ _ _) (fq := fun _ => False) (fl' := fun b => none' b ∨ fold b) rep_j (fun _ hb => hb.elim) (fun b hb => ⟨hb, fun h => h⟩) (fun b hb => .inl hb)
  obtain ⟨i1, o1, c2, r1⟩ := again hS hr P hi ho hrs hset hb
  rw [hrs] at r1
  simp only [Option.some.injEq, Prod.mk.injEq, true_and] at r1
  obtain ⟨rfl, _⟩ := r1
  have key : ∃ w', SR e F w' ((st.kill r p).put r (.v t0 m1 x1)) V (fun i b => (i ≠ r ∧ fp i b) ∨ (i = r ∧ ((fp r b ∧ ¬ fold b) ∨ False))) (fun b => none' b ∨ fold b) ∧ rep F w' (.sl et t) (.o m) (wrL y lo zs) c1 fold ∧ (∀ b, ¬ fold b → Same w w' b) ∧ w'.heap.size = w.heap.size ∧ Still w w' ∧
    (∀ b o sp, A = some ⟨b, o, sp⟩ → zs.length ≠ 0 → sp = none ∧ w' = w.setCells b (o + lo * t.size) news ∧ ∃ cs el fz, w.heap[b]? = some (.cells cs el fz) ∧ o + lo * t.size + news.length ≤ cs.size ∧ zIca w b (o + lo * t.size + news.length) true) ∧ (zs.length = 0 → w' = w) := by
   by_cases hz0 : zs.length = 0
   ·have : zs = [] := List.eq_nil_of_length_eq_zero hz0
    subst this
    refine ⟨w, hS1, ?_, fun _ _ => rfl, rfl, Still.refl _, fun _ _ _ _ hc => absurd rfl hc, fun _ => rfl⟩
    have : wrL y lo [] = y := by unfold wrL; simp
    rw [this]
    exact g2
   ·have g3 := g2
    simp only [rep] at g3
    obtain ⟨A', cap', q1, q2, q3, q4, q5⟩ := g3
    rw [h0] at q1
    simp only [Value.slice.injEq, true_and] at q1
    obtain ⟨rfl, rfl⟩ := q1
    cases A with
    | none => have := q4 rfl; omega
    | some A =>
     obtain ⟨hsp, p1, p2, _⟩ := q5 A rfl
     replace hsp := hsp (by omega)
     obtain ⟨b, o, sp⟩ := A
     simp only at hsp p1 p2
     subst hsp
     obtain ⟨hS2, hrep⟩ := zxva (lo := lo) hS1 g2 (fun b hb => .inr hb) h0 hn hlo hz
     have p2' := p2
     obtain ⟨cs, el, fz, c1', c2', c3'⟩ := p2
     have hcap : (lo + zs.length) * t.size ≤ cap * t.size := Nat.mul_le_mul_right _ (by omega)
     have hoff : o + lo * t.size + news.length ≤ o + cap * t.size := by
      rw [hn]
      rw [Nat.add_mul] at hcap
      omega
     obtain ⟨cs', k1, k2, k3, k4, k5, k6⟩ := zAea (vs := news) (o := o + lo * t.size) c1' (by omega)
     refine ⟨_, hS2, hrep, fun b' hb' => k5 b' (fun hc => hb' (hc ▸ p1)), k6, zpka _ _ _ _, fun b' o' sp' hA hne => ?_, fun hc => absurd hc hz0⟩
     simp only [Option.some.injEq, Addr.mk.injEq] at hA
     obtain ⟨rfl, rfl, rfl⟩ := hA
     exact ⟨rfl, rfl, cs, el, fz, c1', by omega, cs, el, fz, c1', by omega, fun hw => c3' hw⟩
  obtain ⟨w', hS2, hrep2, hsm, hsz, hstl, hfin, hfin0⟩ := key
  split at h
  ·rename_i u mu' y0 hg1
   split at h
   ·rename_i y' hc
    split at h
    ·rename_i m2 x2 hset2
     simp only [RM.run] at h
     have hrr1 := hS1.sv r
     rw [zoca] at hrr1
     obtain ⟨c3, r3, rc3⟩ := zCga hrr1.2 i1 o1 (fun b hb => hsm b (fun hf => by
      rcases hb with ⟨hne, _⟩ | ⟨_, ⟨_, hnf⟩ | hff⟩
      ·exact hne rfl
      ·exact hnf hf
      ·exact hff)) (fun _ _ => rfl) hrs
     have hrr2 := hS2.sv r
     rw [zoca] at hrr2
     obtain ⟨fold2, P2⟩ := zNsa hrr2.2 (hS2.inH r) hS2.inF i1 o1 r3
     obtain ⟨mo2, yo2, g5, g6⟩ := P2.old
     rw [hg1] at g5
     simp only [Option.some.injEq] at g5
     cases g5
     obtain ⟨eu, hy⟩ := zhba hc
     simp only at hy
     subst hy
     rcases hb with rfl | ⟨hp, hb⟩
     ·simp only [getP, Option.some.injEq] at hg
      cases hg
      simp only [rs, Option.some.injEq, Prod.mk.injEq, true_and] at hrs
      obtain ⟨rfl, _⟩ := hrs
      simp only [setP] at hset2
      split at hset2
      case h_2 => cases hset2
      rename_i y2 hy2
      have h8 := Option.some.inj (hc.symm.trans hy2)
      subst h8
      simp only [Option.some.injEq] at hset2
      obtain ⟨rfl, rfl⟩ := hset2
      have hS3 := hS2.fillV (d := r) (v := V r) (t := .sl et t) (m := .o m) (x := wrL y lo zs) (fq := fold) (fl' := none') (fun _ => rfl) (fun _ => hrr.1 hm0) hrep2 (fun b hb => .inr hb) (fun _ hb => hb.elim)
      have hV : updV V r (V r) = V := by
       funext i
       unfold updV
       split
       ·rename_i hh; rw [hh]
       ·rfl
      rw [hV] at hS3
      exact ⟨w', _, _, h, hS3, hfin, hfin0⟩
     ·have hm1 : m1 ≠ .j := zexa hb o1
      have hnr : zPra w' c3 ad = c3 := by
       cases ad with
       | none => rfl
       | some bo => obtain ⟨b, o⟩ := bo; exact ((P2.lies b o rfl).2.2.2).symm
      have hS3 := hS2.place zoca hm1 P2 i1 o1 r3 hset2 (fun _ hb => hb) rfl (Still.refl _) (zZka _ _ _) (fq := fold) (fl' := none') (by rw [hnr]; exact zjaa rc3 hrep2) (fun b hb => .inr (.inr hb)) (fun _ hb => hb.elim) (fun b hb => .inl hb)
      exact ⟨w', _, _, h, hS3, hfin, hfin0⟩
    ·simp [RM.run] at h
   ·simp [RM.run] at h
  ·simp [RM.run] at h
 ·simp [RM.run] at h
theorem zBwa {z : Array Value} {u : Ty} {n i j : Nat} (hz : z = (zVaa u).toArray) (hi : i < n) (hj : j < u.size) : (Builtin.zeroCells z n).toList.getD (i * u.size + j) undef = (zVaa u).getD j undef := by
 have hs : z.size = u.size := by rw [hz]; simp [zmaa]
 have hlt := zWoa hi hj
 have hm : (i * u.size + j) % u.size = j := by rw [Nat.add_comm, Nat.add_mul_mod_self_right, Nat.mod_eq_of_lt hj]
 have h1 : (Builtin.zeroCells z n).toList.getD (i * u.size + j) undef = z[(i * u.size + j) % z.size]! := by
  simp [Builtin.zeroCells, List.getD, hs, hlt]
 rw [h1, hs, hm, hz]
 simp [List.getD, zmaa, hj]
theorem zGva {T : TypeId} {x : Operand} {c : Call} (hE : EnvTy P env) (ho : o.op = .call c) (hc : c.callee = .builtin .clear) (h1 : c.args.toList = [x]) (h2 : c.argTypes.toList = [T]) (hS : SR e F w st V fp none') (hA : AR env gh a V) (hN : Nxt env gh e K res next)
  (h : (evB env o .clear [x] [T]).run C st K = some res) : o.wp P a w next Q := by
 have e1 : c.args = #[x] := by apply Array.ext'; rw [h1]
 have e2 : c.argTypes = #[T] := by apply Array.ext'; rw [h2]
 have hrun : ∀ v w', (Builtin.clear_ #[T] o.type #[a.eval x]).run P w = .ok v w' → (execOp a.eval o).run P w = .ok (.value v) w' := by
  intro v w' hv
  simp only [execOp, ho, resolve, hc, e1, e2, Sem.run_bind, Sem.run_pure, Result.andThen_ok, invoke, builtin, List.map_toArray, List.map_cons, List.map_nil, hv]
 simp only [evB] at h
 obtain ⟨sv, hh, hx⟩ := zSba h
 clear h
 have h := hh
 clear hh
 split at h
 ·rename_i r p lo hi
  rcases hx with ⟨s, rfl, hs, h3⟩ | ⟨c, rfl, h3⟩ | ⟨f, rfl, h3⟩
  ·have hev : a.eval (.tmp s) = V (env.b + s) := hA.tmps s hs
   have hsv := hS.sv (env.b + s)
   rw [← h3] at hsv
   have hr : ∃ t0 m0 x0, st r = .v t0 m0 x0 := by
    unfold memP0 at h
    split at h
    ·simp only [atP, RM.run] at h
     split at h
     ·rename_i t0 m0 x0 hr; exact ⟨t0, m0, x0, hr⟩
     ·simp [RM.run] at h
    ·simp only [memP, RM.run] at h
     split at h
     ·rename_i t0 m0 x0 hr; exact ⟨t0, m0, x0, hr⟩
     ·simp [RM.run] at h
   obtain ⟨t0, m0, x0, hr⟩ := hr
   obtain ⟨h, hb⟩ := zdua hr h
   obtain ⟨a1, a2, u1, c1, ad, a3, e0, u0, A, n, cap, rfl, b1, b2, b3, b4, b5⟩ := hsv t0 m0 x0 hr
   simp only [atP, RM.run, hr] at h
   split at h
   ·rename_i u mu y hg
    split at h
    ·rename_i et u mu y
     split at h
     ·rename_i hT
      simp only [RM.run] at h
      cases hq : inR lo hi (List.length y) with
      | false => rw [hq] at h; cases h
      | true =>
       rw [hq] at h
       have hrr := hS.sv r
       rw [hr] at hrr
       obtain ⟨c2, ad2, fp2, d1, d2, d3⟩ := zIia (ad := none) hrr.2 hg a2 nofun
       rw [a3] at d1
       simp only [Option.some.injEq, Prod.mk.injEq] at d1
       obtain ⟨d0, rfl, rfl⟩ := d1
       cases d0
       have d2' := d2
       simp only [rep] at d2'
       obtain ⟨A', cap', q1, q2, q3, q4, q5⟩ := d2'
       rw [b1] at q1
       simp only [Value.slice.injEq] at q1
       obtain ⟨rfl, rfl, rfl⟩ := q1
       obtain ⟨g1, g2⟩ := wt_sl (Env.is_ok hE hT)
       obtain ⟨i', z', j1, j2, j3, j4, j5, j6⟩ := zFia g2
       have hzc : z'.cells = (zVaa u0).toArray := j6
       have hnl : (Builtin.zeroCells z'.cells (hi.toNat - lo.toNat)).toList.length = (List.replicate (hi.toNat - lo.toNat) u0.dflt).length * u0.size := by
        simp [Builtin.zeroCells, j6, zmaa]
       obtain ⟨w', st', fp', k1, k2, k3, k4⟩ := zkwa (news := (Builtin.zeroCells z'.cells (hi.toNat - lo.toNat)).toList) hS hr hg a1 a2 a3 hb b1 hnl (by simp; omega) (fun i hi2 => by
        have hi3 : i < hi.toNat - lo.toNat := by simpa using hi2
        have e5 : (List.replicate (hi.toNat - lo.toNat) u0.dflt).getD i u0.dflt = u0.dflt := by simp [List.getD, hi3]
        rw [e5]
        refine zina fun j hj => ?_
        exact zBwa hzc hi3 hj) h
       have hbd := zora hq
       have fin : ∀ wz, wz = w' → (Builtin.clear_ #[T] o.type #[a.eval (.tmp s)]).run P w = .ok (.tuple #[]) wz → o.wp P a w next Q := fun wz hwz hrunc => by
        subst hwz
        exact endO (fq := fun _ => False) k2 hA hN rfl k1 trivial (fun _ hb => hb.elim) (hrun _ _ hrunc)
       rw [hev, b5] at fin
       by_cases hn0 : hi.toNat - lo.toNat = 0
       ·refine fin w (k4 (by simpa using hn0)).symm ?_
        unfold zJna
        rw [hn0]
        generalize (if cap = lo.toNat then A else A.map fun x => x.add (lo.toNat * u0.size)) = A2
        cases A2 <;> simp [Builtin.clear_, run_underlying g1, Result.andThen]
       ·have hcl : cap ≠ lo.toNat := by omega
        cases A with
        | none => have := q4 rfl; omega
        | some A =>
         obtain ⟨b, k, sp⟩ := A
         obtain ⟨rfl, rfl, cs, el, fz, m1, m2, m3⟩ := k3 b k sp rfl (by simpa using hn0)
         refine fin _ rfl ?_
         have hst := run_storeCells_cells (P := P) b (k + lo.toNat * u0.size) (Builtin.zeroCells z'.cells (hi.toNat - lo.toNat)).toList 0 w (fun j hj => by
          simp only [Nat.add_zero]
          rw [zqja m3 (k := k + lo.toNat * u0.size + j) (by omega)]; rfl)
          (fun j hj => by simp only [Nat.add_zero]; exact zvna m3 (by omega)) (fun v hv => by
           obtain ⟨q, hq1, rfl⟩ := List.getElem_of_mem hv
           have hq2 : q < (hi.toNat - lo.toNat) * z'.cells.size := by simpa [Builtin.zeroCells] using hq1
           have hz0 : 0 < z'.cells.size := by
            rcases Nat.eq_zero_or_pos z'.cells.size with hc0 | hc0
            ·rw [hc0] at hq2; simp at hq2
            ·exact hc0
           have : (Builtin.zeroCells z'.cells (hi.toNat - lo.toNat)).toList[q] = z'.cells[q % z'.cells.size]'(Nat.mod_lt _ hz0) := by
            simp [Builtin.zeroCells, Nat.mod_lt _ hz0]
           rw [this]
           refine zwta u0 _ ?_
           have h7 : z'.cells[q % z'.cells.size]'(Nat.mod_lt _ hz0) ∈ z'.cells.toList := by simp
           have h8 : z'.cells.toList = zVaa u0 := by rw [hzc]
           rw [h8] at h7
           exact h7)
         have hcv : zJna (some ⟨b, k, none⟩) cap lo.toNat hi.toNat u0.size = .slice (some ⟨b, k + lo.toNat * u0.size, none⟩) (hi.toNat - lo.toNat) (cap - lo.toNat) := by
          unfold zJna
          rw [if_neg hcl, Option.map_some, zJda]
         rw [hcv]
         obtain ⟨nn, hnn⟩ : ∃ nn, hi.toNat - lo.toNat = nn + 1 := ⟨hi.toNat - lo.toNat - 1, by omega⟩
         rw [hnn] at hst ⊢
         have hz5 : (zeroValue e0).run P w = .ok z' w := by rw [zhqa g2, ← j5]
         simp [Builtin.clear_, run_underlying g1, hz5, hst, Result.andThen]
     ·simp [RM.run] at h
    ·simp [RM.run] at h
   ·simp [RM.run] at h
  ·unfold cst at h3; (repeat' split at h3) <;> cases h3
  ·cases h3
 ·simp [RM.run] at h
end
end Go.Trm
namespace Go.Trm
theorem zsva : ∀ {ks : List (Ty × Md)} {d : DR ks} {k : Nat} {s : SV}, (resV ks d)[k]? = some s → ∃ q x, ks[k]? = some q ∧ s = .v q.1 q.2 x
 | [], _, k, s, h => by simp [resV] at h
 | q :: ks, d, 0, s, h => by
  simp only [resV, List.getElem?_cons_zero, Option.some.injEq] at h
  exact ⟨q, _, rfl, h.symm⟩
 | q :: ks, d, k + 1, s, h => by
  simp only [resV, List.getElem?_cons_succ] at h
  obtain ⟨q', x, h1, h2⟩ := zsva h
  exact ⟨q', x, by simpa using h1, h2⟩
theorem zppa (ks : List (Ty × Md)) (d : DR ks) : (∃ q x, q ∈ ks ∧ resS ks d = .v q.1 q.2 x) ∨ resS ks d = .tup (resV ks d) := by
 unfold resS
 split
 ·rename_i x hx
  obtain ⟨q, y, h1, h2⟩ := zsva (k := 0) (s := x) (by rw [hx]; rfl)
  exact .inl ⟨q, y, List.mem_of_getElem? h1, h2⟩
 ·exact .inr rfl
section
variable {P : Program} {env : Env} {e : Entry} {F : Blks} {w : World} {st : St} {V : Nat → Value} {fp : Nat → Blks} {fl : Blks} {a : Act} {o : Oper} {R : Type} {K : Unit → St → Option R} {res : R} {C : Cx R} {gh : Nat → Value} {next : Act → World → Prop} {Q : Exit → Act → World → Prop}
theorem ResR.clsd {F F' : Blks} {v : Value} {fo : Blks} {ks : List (Ty × Md)} {d : DR ks} (hc : ks.all (fun k => Trm.clsd k.1 k.2) = true) (h : ResR F w v fo (resS ks d)) : ResR F' w v fo (resS ks d) := by
 rcases zppa ks d with ⟨q, x, hq, hr⟩ | hr
 ·rw [hr] at h ⊢
  exact ⟨h.1, zoqa (List.all_eq_true.1 hc q hq) h.2⟩
 ·rw [hr] at h ⊢
  obtain ⟨vs, e1, e2, fs, e3, e4, e5⟩ := h
  refine ⟨vs, e1, e2, fs, e3, e4, fun k t m x hk => ?_⟩
  obtain ⟨u, k1, k2, k3⟩ := e5 k t m x hk
  obtain ⟨q, y, h1, h2⟩ := zsva hk
  cases h2
  exact ⟨u, k1, k2, zoqa (List.all_eq_true.1 hc q (List.mem_of_getElem? h1)) k3⟩
theorem BackR.clsd {F F' : Blks} {w : World} : ∀ {ks : List PK} {b : DB ks} {vs : List Value} {fs : Nat → Blks}, ks.all (fun
  | .ref t _ m' => Trm.clsd t m'
  | _ => true) = true → BackR F w ks b vs fs → BackR F' w ks b vs fs
 | [], _, vs, _, _, _ => by cases vs <;> trivial
 | k :: ks, _, [], _, _, _ => zxja
 | .val _ _ :: ks, b, v :: vs, fs, hc, h => by
  rw [List.all_cons, Bool.and_eq_true] at hc
  exact BackR.clsd (ks := ks) hc.2 (show BackR F w ks b vs _ from h)
 | .fn _ :: ks, b, v :: vs, fs, hc, h => by
  rw [List.all_cons, Bool.and_eq_true] at hc
  exact BackR.clsd (ks := ks) hc.2 (show BackR F w ks b vs _ from h)
 | .ref t m m' :: ks, b, v :: vs, fs, hc, h => by
  rw [List.all_cons, Bool.and_eq_true] at hc
  obtain ⟨h1, h2, h3⟩ := h
  exact ⟨h1, zoqa (by simpa only [Trm.clsd] using hc.1) h2, BackR.clsd (ks := ks) hc.2 h3⟩
theorem zpqa {F F' : Blks} {w : World} {t : Ty} {m : Md} {x : t.I} {c : Cells} {fq : Blks} (hf : t.flat = true) (hr : rep F w t m x c fq) : rep F' w t m x c fq := by
 induction t generalizing m c fq with
 | sl e t ih => cases hf
 | ptr e t ih => cases hf
 | pair a b iha ihb =>
  simp only [Ty.flat, Bool.and_eq_true] at hf
  obtain ⟨fa, fb, h1, h2, h3, ra, rb⟩ := zpda hr
  have : ∃ fa fb : Blks, (∀ i, fa i → fq i) ∧ (∀ i, fb i → fq i) ∧ (∀ i, fa i → ¬ fb i) ∧ rep F' w a m.fst x.1 c fa ∧ rep F' w b m.snd x.2 (fun j => c (a.size + j)) fb := ⟨fa, fb, h1, h2, h3, iha hf.1 ra, ihb hf.2 rb⟩
  cases m with
  | j => exact rep_j
  | _ => simpa only [rep] using this
 | arr n t ih =>
  cases m with
  | j => exact rep_j
  | _ =>
   simp only [rep] at hr ⊢
   obtain ⟨hn, fs, h1, h2, r⟩ := hr
   exact ⟨hn, fs, h1, h2, fun i hi => ih hf (r i hi)⟩
 | _ => cases m <;> simp only [rep] at hr ⊢ <;> exact hr
theorem ziwa {sv : SV} {v : Value} {fo : Blks} (hS : SR e F w st V fp fl) (hA : AR env gh a V) (h : (fin env o sv).run C st K = some res) (hr : svR F w st V fo v sv) (hq : ∀ b, fo b → fl b) :
  ∃ st' V' fp' F', K () st' = some res ∧ SR e F' w st' V' fp' (fun _ => False) ∧ AR env gh (a.put o.dst v) V' := by
 cases sv with
 | v t m y => exact zWla hS hA h hr.1 hr.2 hq
 | _ =>
  obtain ⟨st', V', fp', h1, h2, h3⟩ := zNha hS hA rfl h hr hq
  exact ⟨st', V', fp', F, h1, h2, h3⟩
theorem zjwa {ks : List (Ty × Md)} {d : DR ks} {v : Value} {fo : Blks} (hS : SR e F w st V fp fl) (hA : AR env gh a V) (h : (fin env o (resS ks d)).run C st K = some res) (hr : ResR F w v fo (resS ks d)) (hq : ∀ b, fo b → fl b) :
  ∃ st' V' fp' F', K () st' = some res ∧ SR e F' w st' V' fp' (fun _ => False) ∧ AR env gh (a.put o.dst v) V' := by
 rcases zppa ks d with ⟨q, x, hq', hs⟩ | hs
 ·rw [hs] at h hr
  exact zWla hS hA h hr.1 hr.2 hq
 ·rw [hs] at h hr
  obtain ⟨st', V', fp', h1, h2, h3⟩ := zNha hS hA rfl h hr hq
  exact ⟨st', V', fp', F, h1, h2, h3⟩
def InlOk (P : Program) (lim : Nat) (inl : Inl) : Prop := ∀ f d (R : Type) st xs (K : SV → St → Option R) (Kp : PanV → St → Option R) res, inl f d R st xs K Kp = some res →
 (∃ fn code, P.funcs[f]? = some fn ∧ (fn.name == "runtime.NumGoroutine") = false ∧ fn.body = some code) ∧
 ∀ (e : Entry) (F : Blks) (w : World) (V : Nat → Value) (fp : Nat → Blks) (vals : List Value) (Rp : Ending → World → Prop), GlE P e → SR e F w st V fp none' → vals.length = xs.length → (∀ (k : Nat) sv v, xs[k]? = some sv → vals[k]? = some v → svR F w st V none' v sv) →
  (∀ F' w' st' V' fp' fo v sv, SR e F' w' st' V' fp' fo → (∀ i, i < lim ∨ gh0 ≤ i → V' i = V i) → svR F' w' st' V' fo v sv → K sv st' = some res → Rp (.returned v) w') →
  (∀ F' w' st' V' fp' p ch, SR e F' w' st' V' fp' none' → (∀ i, i < lim ∨ gh0 ≤ i → V' i = V i) → PanR F' w' p ch → Kp p st' = some res → Rp (.panicked ch) w') →
  Calls P f vals.toArray w Rp
def Env.top (env : Env) : Nat := env.b + env.n + 1
structure CxOk (P : Program) (env : Env) (gh : Nat → Value) (e : Entry) (C : Cx R) (res : R) (Q : Exit → Act → World → Prop) : Prop where
 pan : ∀ p ch F w st V fp a, SR e F w st V fp none' → AR env gh a V → PanR F w p ch → C.kp p st = some res → Q (.panic ch) a w
 gl : GlE P e
 inl : ∃ inl : Inl, InlOk P env.top inl ∧ ∀ f d st xs k, C.inl f d st xs k = inl f d R st xs k C.kp
theorem AR.congr {V' : Nat → Value} (hA : AR env gh a V) (h : ∀ i, i < env.top ∨ gh0 ≤ i → V' i = V i) : AR env gh a V' := by
 unfold Env.top at h
 refine ⟨hA.size, fun i hi => ?_, ?_, hA.lim, fun i hi => ?_⟩
 ·rw [h _ (.inl (by omega))]; exact hA.tmps i hi
 ·rw [h _ (.inl (by omega))]; exact hA.defers
 ·rw [h i (by have := hA.lim; omega)]; exact hA.keep i hi
theorem zWpa {α : Type} {Kk : α → St → Option R} (hS : SR e F w st V fp fl) (hA : AR env gh a V) : ∀ {xs : List Operand} {Ts : List TypeId} {k : List SV → RM α}, (zdsa env xs Ts k).run C st Kk = some res →
  ∃ svs : List SV, (k svs).run C st Kk = some res ∧ svs.length = xs.length ∧ ∀ (i : Nat) sv v, svs[i]? = some sv → (xs.map a.eval)[i]? = some v → svR F w st V none' v sv
 | [], Ts, k, h => ⟨[], h, rfl, fun i sv v hi => by simp at hi⟩
 | x :: xs, Ts, k, h => by
  simp only [zdsa, argSV] at h
  obtain ⟨sv, h1, hx⟩ := zSba h
  have key0 : ∀ sv', (zdsa env xs Ts.tail fun l => k (sv' :: l)).run C st Kk = some res → svR F w st V none' (a.eval x) sv' → ∃ svs : List SV, (k svs).run C st Kk = some res ∧ svs.length = (x :: xs).length ∧ ∀ (i : Nat) sv v, svs[i]? = some sv → ((x :: xs).map a.eval)[i]? = some v → svR F w st V none' v sv := by
   intro sv' h2 hv
   obtain ⟨svs, k1, k2, k3⟩ := zWpa hS hA h2
   refine ⟨sv' :: svs, k1, by simp [k2], fun i sv v hi hv' => ?_⟩
   cases i with
   | zero =>
    simp only [List.getElem?_cons_zero, Option.some.injEq, List.map_cons] at hi hv'
    subst hi; subst hv'; exact hv
   | succ i => exact k3 i sv v (by simpa using hi) (by simpa using hv')
  have key : ∀ sv', (lzAl sv' fun v => zdsa env xs Ts.tail fun l => k (v :: l)).run C st Kk = some res → svR F w st V none' (a.eval x) sv' → ∃ svs : List SV, (k svs).run C st Kk = some res ∧ svs.length = (x :: xs).length ∧ ∀ (i : Nat) sv v, svs[i]? = some sv → ((x :: xs).map a.eval)[i]? = some v → svR F w st V none' v sv := by
   intro sv' h2 hv
   unfold lzAl at h2
   split at h2
   ·rename_i r
    simp only [RM.run] at h2
    split at h2
    ·rename_i T t m y hst
     refine key0 _ h2 ?_
     obtain ⟨_, _, u, c', ad, e1, e2⟩ := hv _ _ _ hst
     simp only [rs, Option.some.injEq, Prod.mk.injEq] at e1
     have hsv := hS.sv r
     rw [hst] at hsv
     have h3 : V r = valOf (.ptr T t) (cv (V r)) := hsv.1 nofun
     have h4 : a.eval x = V r := by
      obtain ⟨rfl, e3, _⟩ := e1
      rw [e2, ← eq_of_heq (heq_of_eq e3), ← h3]
     rw [h4]
     exact zCta hS hst
    ·exact key0 _ h2 hv
   ·exact key0 _ h2 hv
  rcases hx with ⟨s, rfl, hs, rfl⟩ | ⟨c, rfl, rfl⟩ | ⟨f, rfl, rfl⟩
  ·have hev : a.eval (.tmp s) = V (env.b + s) := hA.tmps s hs
   have hsv := hS.sv (env.b + s)
   cases hst : st (env.b + s) with
   | v t m y =>
    rw [hst] at h1 hsv
    have hlz : m ≠ .j → svR F w st V none' (a.eval (.tmp s)) (.lz (env.b + s) []) := by
     intro hm t0 m0 x0 h0
     rw [hst] at h0
     cases h0
     exact ⟨by simp [ownP], by simp [inP], _, _, _, by simp [rs]; exact ⟨rfl, rfl, rfl⟩, by rw [hev]; exact hsv.1 hm⟩
    cases m with
    | s => exact key _ h1 ⟨fun _ => by rw [hev]; exact hsv.1 nofun, by rw [hev]; exact rep_s hsv.2⟩
    | j => simp [RM.run] at h1
    | o m => exact key _ h1 (hlz nofun)
    | p m m' => exact key _ h1 (hlz nofun)
   | al r p => rw [hst] at h1 hsv; exact key _ h1 (by rw [hev]; exact hsv)
   | lz r p => rw [hst] at h1 hsv; exact key _ h1 (by rw [hev]; exact hsv)
   | sub r p lo hi => rw [hst] at h1 hsv; exact key _ h1 (by rw [hev]; exact hsv)
   | fn f s' c => rw [hst] at h1 hsv; exact key _ h1 (by rw [hev]; exact hsv)
   | ifc T t x => rw [hst] at h1 hsv; exact key _ h1 (by rw [hev]; exact hsv)
   | nil => rw [hst] at h1 hsv; exact key _ h1 (by rw [hev]; exact hsv)
   | bx r p => rw [hst] at h1; simp [RM.run] at h1
   | tup l => rw [hst] at h1; simp [RM.run] at h1
   | un => rw [hst] at h1; simp [RM.run] at h1
  ·cases hc : cst env (Ts.headD 0) c with
   | v t m y =>
    obtain ⟨b1, b2, b3⟩ := zKna (F := F) (w := w) hc
    rw [hc] at h1
    cases m with
    | j => exact absurd rfl b2
    | _ => exact key _ h1 ⟨fun _ => b1, b3⟩
   | nil =>
    rw [hc] at h1
    refine key _ h1 ?_
    unfold cst at hc
    (repeat' split at hc) <;> first | (cases hc; done) | rfl
   | un => rw [hc] at h1; simp [RM.run] at h1
   | _ => unfold cst at hc; (repeat' split at hc) <;> cases hc
  ·exact key _ h1 ⟨[], [], rfl, ⟨rfl, fun k q hq => by simp at hq⟩, ⟨rfl, fun k q hq => by simp at hq⟩⟩
theorem zava {caps : List (Nat × List PE)} {vs : List Value} (h : CapsOk F w st V caps vs) : ∀ (i : Nat) sv v, (alsOf caps)[i]? = some sv → vs[i]? = some v → svR F w st V none' v sv := by
 intro i sv v hi hv
 simp only [alsOf, List.getElem?_map, Option.map_eq_some_iff] at hi
 obtain ⟨q, hq, rfl⟩ := hi
 obtain ⟨u, h1, h2⟩ := h.2 i q hq
 rw [hv] at h1
 cases h1
 obtain ⟨r, p⟩ := q
 cases p with
 | nil => exact h2
 | cons e p => exact h2
theorem zjxa {c : Call} {x : Operand} (hF : EnvFn P env) (hC : CxOk P env gh e C res Q) (ho : o.op = .call c) (hc : c.callee = .value x) (hS : SR e F w st V fp none') (hA : AR env gh a V) (hN : Nxt env gh e K res next) (h : (evOp env o).run C st K = some res) : o.wp P a w next Q := by
 simp only [evOp, ho, hc] at h
 obtain ⟨sv, h1, hx⟩ := zSba h
 split at h1
 ·rename_i f fst caps
  have hv : ∃ us vs : List Value, a.eval x = .func (.func f) us.toArray vs.toArray ∧ CapsOk F w st V fst us ∧ CapsOk F w st V caps vs := by
   rcases hx with ⟨s, rfl, hs, h3⟩ | ⟨c, rfl, h3⟩ | ⟨f', rfl, h3⟩
   ·have hev : a.eval (.tmp s) = V (env.b + s) := hA.tmps s hs
    have hsv := hS.sv (env.b + s)
    rw [← h3] at hsv
    rw [hev]
    exact hsv
   ·unfold cst at h3; (repeat' split at h3) <;> cases h3
   ·cases h3; exact ⟨[], [], rfl, ⟨rfl, fun k q hq => by simp at hq⟩, ⟨rfl, fun k q hq => by simp at hq⟩⟩
  obtain ⟨us, vs, hv, hus, hvs⟩ := hv
  split at h1
  ·
   obtain ⟨svs, h2, l1, hsv⟩ := zWpa hS hA h1
   simp only [RM.run] at h2
   obtain ⟨inl, hI, hCi⟩ := hC.inl
   rw [hCi] at h2
   obtain ⟨⟨fn, code, f1, f2, f3⟩, hcall⟩ := hI _ _ _ _ _ _ _ _ h2
   have hrun : (execOp a.eval o).run P w = .ok (.enter f (us ++ (c.args.toList.map a.eval ++ vs)).toArray) w := by
    have e1 : (us ++ (c.args.toList.map a.eval ++ vs)).toArray = (us.toArray ++ c.args.map a.eval) ++ vs.toArray := by apply Array.ext'; simp
    rw [e1]
    simp only [execOp, ho, resolve, hc, hv, Deferred.ofValue, Sem.run_bind, Sem.run_pure, Result.andThen_ok, invoke]
    exact Go.MuLone.run_callFunc_enter f1 f2 f3 _ _
   unfold Oper.wp
   rw [hrun]
   have la : us.length = (alsOf fst).length := by simp [alsOf, hus.1]
   have lb : vs.length = (alsOf caps).length := by simp [alsOf, hvs.1]
   have lc : (c.args.toList.map a.eval).length = svs.length := by simp [l1]
   refine hcall e F w V fp _ _ hC.gl hS (by simp only [List.length_append]; omega) (fun k sv v hk hv' => ?_) (fun F' w' st' V' fp' fo v sv hS' hV' hr hK => ?_) (fun F' w' st' V' fp' p ch hS' hV' hp hK => ?_)
   ·rcases Nat.lt_or_ge k us.length with hk1 | hk1
    ·rw [List.getElem?_append_left (by omega)] at hk
     rw [List.getElem?_append_left hk1] at hv'
     exact zava hus k sv v hk hv'
    ·rw [List.getElem?_append_right (by omega), ← la] at hk
     rw [List.getElem?_append_right hk1] at hv'
     rcases Nat.lt_or_ge (k - us.length) svs.length with hk2 | hk2
     ·rw [List.getElem?_append_left hk2] at hk
      rw [List.getElem?_append_left (by omega)] at hv'
      exact hsv _ sv v hk hv'
     ·rw [List.getElem?_append_right hk2] at hk
      rw [List.getElem?_append_right (by omega), lc] at hv'
      exact zava hvs _ sv v hk hv'
   ·obtain ⟨st2, V2, fp2, F3, q1, q2, q3⟩ := ziwa hS' (hA.congr hV') hK hr (fun b hb => hb)
    exact hN _ _ _ _ _ _ q2 q3 q1
   ·exact hC.pan p ch _ _ _ _ _ _ hS' (hA.congr hV') hp hK
  ·split at h1
   ·obtain rfl : us = [] := List.eq_nil_of_length_eq_zero hus.1
    obtain rfl : vs = [] := List.eq_nil_of_length_eq_zero hvs.1
    unfold enter at h1
    obtain ⟨gs, h1⟩ := zapa h1
    split at h1
    ·simp [RM.run] at h1
    ·rename_i cs hg
     have H := hF f gs cs hg
     obtain ⟨fn, code, f1, f2, f3⟩ := H.fn
     obtain ⟨rs, h1r, hal⟩ := zwka hA hS h1
     obtain ⟨al, h1r, halOk⟩ := zGia hS h1r
     obtain ⟨st', fp', fl', F', d, ms, bs, fps, k1, k2, k3, k4, k5, k6, k7, k8, k9⟩ := zzda hA hS h1r
     simp only [RM.run] at k1
     have hrun : (execOp a.eval o).run P w = .ok (.enter f (c.args.toList.map a.eval).toArray) w := by
      have e1 : (c.args.toList.map a.eval).toArray = c.args.map a.eval := by apply Array.ext'; simp
      rw [e1]
      simp only [execOp, ho, resolve, hc, hv, Deferred.ofValue, Sem.run_bind, Sem.run_pure, Result.andThen_ok, invoke, Array.append_empty, Array.empty_append]
      exact Go.MuLone.run_callFunc_enter f1 f2 f3 _ _
     have hcalls := H.calls (fun b => F' b ∨ ∃ r, r ∈ bs ∧ fp' r b) w d _ fps _ _ _ _ ((k2.gl hC.gl).mono (fun _ hb => .inl hb) (fun _ _ => rfl)) (fun b hb => by
       rcases hb with hb | ⟨r, _, hb⟩
       ·exact k2.inF b hb
       ·exact k2.inH r b hb) k5 (fun i b hb => ⟨fun hc => by
        rcases hc with hc | ⟨r, _, hc⟩
        ·exact k2.flF b (k6 i b hb).1 hc
        ·exact k2.flD r b hc (k6 i b hb).1, k2.flH b (k6 i b hb).1⟩) k9 k1
     unfold Oper.wp
     rw [hrun]
     refine Calls.mono hcalls fun e' w' hpost => ?_
     obtain ⟨rb, F2, fo, fb, hret, p2, p3, p4, ⟨pb1, pb2, pb3⟩, p6, p7⟩ := hpost
     have hW : SR e F' w' st' V fp' (fun b => fl' b ∨ (w.heap.size ≤ b ∧ b < w'.heap.size)) := by
      refine k2.world (fun b hb hnf => p4 b hb (fun i hi => hnf (k6 i b hi).1)) p3 (fun b hb => ?_)
      rcases hb with hb | hb
      ·exact ⟨.inl hb, Nat.lt_of_lt_of_le (k2.flH b hb) p3.size⟩
      ·exact ⟨.inr hb.1, hb.2⟩
     have hfo : ∀ b, (fo b ∨ ∃ i, fb i b) → fl' b ∨ (w.heap.size ≤ b ∧ b < w'.heap.size) := fun b hb => by
      obtain ⟨_, q2, q3⟩ := p6 b hb
      rcases q3 with ⟨i, q3⟩ | q3
      ·exact .inl (k6 i b q3).1
      ·exact .inr ⟨q3, q2⟩
     have hmid : ∃ (F3 : Blks) (fl3 : Blks), SR e F3 w' st' V fp' fl3 ∧ BackR F3 w' cs.ins rb ((c.args.toList).map a.eval) fb ∧ (∀ i b, fb i b → fl3 b) ∧ (∀ b, fo b → fl3 b) ∧
       (∀ v ro, ResR F2 w' v fo (resS cs.outs ro) → ResR F3 w' v fo (resS cs.outs ro)) := by
      cases hcl : cs.clsd with
      | true =>
       have hcl2 := hcl
       unfold CSpec.clsd at hcl2
       simp only [Bool.and_eq_true] at hcl2
       exact ⟨F', _, hW, BackR.clsd (F' := F') hcl2.2 pb3, fun i b hb => hfo b (.inr ⟨i, hb⟩), fun b hb => hfo b (.inl hb), fun v ro hr => ResR.clsd (F' := F') hcl2.1 hr⟩
      | false =>
       have hbs := k8 hcl
       have hW2 : SR e F2 w' st' V fp' (fun b => fo b ∨ ∃ i, fb i b) := hW.moreF (fun b hb => p2 b (.inl hb)) (fun b hb => by
         obtain ⟨q1, q2⟩ := p7 b hb
         rcases q2 with (q2 | ⟨r, hr, _⟩) | ⟨i, q2⟩ | q2
         ·exact .inl q2
         ·rw [hbs] at hr; cases hr
         ·exact .inr (.inl (k6 i b q2).1)
         ·exact .inr (.inr ⟨q2, q1⟩)) hfo (fun b hb => (p6 b hb).1)
       exact ⟨F2, _, hW2, pb3, fun i b hb => .inr ⟨i, hb⟩, fun b hb => .inl hb, fun v ro hr => hr⟩
     obtain ⟨F3, fl3, m1, m2, m3, m4, m5⟩ := hmid
     rcases hret with ⟨v, ro, rfl, p1, p5⟩ | ⟨ch, pi, rfl, p1, p5⟩
     ·obtain ⟨st1, fp1, q0, hW1⟩ := zbla m1 m2 hal pb1 m3 p1
      obtain ⟨st1', fp1', q0', hW1'⟩ := zqha hW1 halOk q0
      obtain ⟨st2, V2, fp2, F4, q1, q2, q3⟩ := zjwa hW1' hA q0' (m5 _ _ p5) (fun b hb => ⟨m4 b hb, fun i hc => pb2 i b hc hb⟩)
      exact hN _ _ _ _ _ _ q2 q3 q1
     ·obtain ⟨st1, fp1, q0, hW1⟩ := zbla m1 m2 hal pb1 m3 p1
      obtain ⟨st1', fp1', q0', hW1'⟩ := zqha hW1 halOk q0
      simp only [RM.run] at q0'
      obtain ⟨pv, hch, u, z1, z2, z3, z4⟩ := p5
      exact hC.pan _ _ _ _ _ _ _ _ (hW1'.less (fun _ hb => hb.elim)) hA ⟨pv, hch, u, z1, z2, z3, zpqa z2 z4⟩ q0'
   ·simp [RM.run] at h1
 ·simp [RM.run] at h1
theorem zHwa {t : Ty} {T : TypeId} (hfl : t.flat = true) (h : wt P t T = true) : ∃ d, P.underlying T = some d ∧ ∀ ms, d ≠ .interface ms := by
 cases hd : P.underlying T with
 | none => cases t <;> simp [wt, hd] at h
 | some d =>
  refine ⟨d, rfl, ?_⟩
  rintro ms rfl
  cases t <;> first | (simp [wt, hd] at h; done) | (simp [Ty.flat] at hfl; done)
theorem znna {T : TypeId} {x : Operand} (hE : EnvTy P env) (ho : o.op = .makeInterface T x) (hS : SR e F w st V fp none') (hA : AR env gh a V) (hN : Nxt env gh e K res next) (h : (evOp env o).run C st K = some res) : o.wp P a w next Q := by
 simp only [evOp, ho] at h
 obtain ⟨t, m, y, src, h1, hd, _⟩ := zWca hS hA h
 obtain ⟨hv, hm, fq, hrep, _⟩ := hd.rep hS
 split at h1
 ·rename_i hck
  simp only [Bool.and_eq_true] at hck
  obtain ⟨⟨k1, k2⟩, k3⟩ := hck
  have hm' : m = .s := by cases m <;> first | rfl | cases k3
  subst hm'
  refine zqia (endOp (fq := none') (v := .iface T (a.eval x)) hS hA hN rfl h1 ⟨a.eval x, rfl, k1, hv, rep_s hrep⟩ (fun _ hb => hb) fun w' => ?_)
  obtain ⟨d, hu, hn⟩ := zHwa k1 (Env.is_ok hE k2)
  simp only [execOp, ho, Instr.makeInterface, Sem.run_bind, run_underlying hu, Result.andThen_ok]
  cases d <;> first | exact absurd rfl (hn _) | rfl
 ·simp [RM.run] at h1
theorem zCva {x : Operand} (hC : CxOk P env gh e C res Q) (ho : o.op = .panic x) (hS : SR e F w st V fp none') (hA : AR env gh a V) (h : (evOp env o).run C st K = some res) : o.wp P a w next Q := by
 simp only [evOp, ho] at h
 obtain ⟨sv, h1, hx⟩ := zSba h
 split at h1
 ·rename_i T t y
  simp only [RM.run] at h1
  have hv : IfcOk F w T t y (a.eval x) := by
   rcases hx with ⟨s, rfl, hs, h3⟩ | ⟨c, rfl, h3⟩ | ⟨f', rfl, h3⟩
   ·have hev : a.eval (.tmp s) = V (env.b + s) := hA.tmps s hs
    have hsv := hS.sv (env.b + s)
    rw [← h3] at hsv
    rw [hev]
    exact hsv
   ·unfold cst at h3; (repeat' split at h3) <;> cases h3
   ·cases h3
  have hp := hC.pan ⟨T, t, y⟩ [{ v := a.eval x, recovered := false }] _ _ _ _ _ _ hS hA ⟨_, rfl, hv⟩ h1
  obtain ⟨u, hu, _⟩ := hv
  have hrun : (execOp a.eval o).run P w = .halt (.panic (a.eval x)) w := by
   simp only [execOp, ho, Instr.panic, hu, goPanic, Sem.run_bind, Sem.run]
   rfl
  unfold Oper.wp
  rw [hrun]
  exact hp
 ·simp [RM.run] at h1
theorem zsua (hE : EnvTy P env) (hp : zSra o.op = true) (hS : SR e F w st V fp none') (hA : AR env gh a V) (hN : Nxt env gh e K res next) (h : (evOp env o).run C st K = some res) : wpp P o a w next := by
 have hfail : ∀ {p : Op}, o.op = p → (RM.fail : RM Unit).run C st K = some res → wpp P o a w next := fun _ h => by simp [RM.run] at h
 cases ho : o.op with
 | move x => exact zQua ho hS hA hN h
 | assign x => exact zira ho hS hA hN h
 | pick c x y => exact zPua ho hS hA hN h
 | build T ps => exact zUsa hE ho hS hA hN h
 | nilCheck x => exact zsoa ho hS hA hN h
 | binOp op T x y U => exact zVsa hE ho hS hA hN h
 | unOp op T x => exact zOua ho hS hA hN h
 | makeFunc fn first caps =>
  cases fn with
  | func f => exact ztoa ho hS hA hN h
  | _ => simp only [evOp, ho] at h; exact hfail ho h
 | slice T x lo hi mx =>
  cases mx with
  | none => exact zPsa hE ho hS hA hN h
  | some _ => simp only [evOp, ho] at h; exact hfail ho h
 | fieldAddr S x i => exact zpna hE ho hS hA hN h
 | field T x i => exact zSsa hE ho hS hA hN h
 | indexAddr T x i => exact zona hE ho hS hA hN h
 | index T x i => exact zRsa hE ho hS hA hN h
 | extract x i => exact ztpa ho hS hA hN h
 | call c =>
  rw [ho] at hp
  cases hc : c.callee with
  | builtin b =>
   simp only [zSra, hc] at hp
   simp only [evOp, ho, hc] at h
   generalize hxs : c.args.toList = xs at h
   generalize hTs : c.argTypes.toList = Ts at h
   have h0 := h
   unfold evB at h
   split at h
   ·exact zixa hE ho hc hxs hTs hS hA hN h0
   ·exact zfxa ho hc hxs hS hA hN (by rw [hTs]; exact h0)
   ·exact zgxa ho hc hxs hS hA hN (by rw [hTs]; exact h0)
   ·simp at hp
   ·simp at hp
   ·exact hfail ho h
  | _ => simp only [zSra, hc] at hp; cases hp
 | _ => rw [ho] at hp; cases hp
theorem zEva {c : Call} (ho : o.op = .defer c) (hS : SR e F w st V fp none') (hA : AR env gh a V) (hN : Nxt env gh e K res next) (h : (evOp env o).run C st K = some res) : o.wp P a w next Q := by
 simp only [evOp, ho] at h
 split at h
 ·rename_i x hcal hargs hdf
  obtain ⟨sv, h1, hx⟩ := zSba h
  split at h1
  ·rename_i f fst caps
   simp only [RM.run] at h1
   split at h1
   ·rename_i hu
    simp only [RM.run] at h1
    have hv : ∃ us vs : List Value, a.eval x = .func (.func f) us.toArray vs.toArray ∧ CapsOk F w st V fst us ∧ CapsOk F w st V caps vs := by
     rcases hx with ⟨s, rfl, hs, h3⟩ | ⟨c, rfl, h3⟩ | ⟨f', rfl, h3⟩
     ·have hev : a.eval (.tmp s) = V (env.b + s) := hA.tmps s hs
      have hsv := hS.sv (env.b + s)
      rw [← h3] at hsv
      rw [hev]
      exact hsv
     ·unfold cst at h3; (repeat' split at h3) <;> cases h3
     ·cases h3; exact ⟨[], [], rfl, ⟨rfl, fun k q hq => by simp at hq⟩, ⟨rfl, fun k q hq => by simp at hq⟩⟩
    obtain ⟨us, vs, hv, hus, hvs⟩ := hv
    have hsv : svR F w st V none' (a.eval x) (.fn f fst caps) := ⟨us, vs, hv, hus, hvs⟩
    have hd0 : a.defers = [] := by
     have h4 := hS.sv (env.b + env.n)
     rw [hu] at h4
     obtain ⟨vs', e1, e2, _⟩ := h4
     have h5 := hA.defers
     rw [hdf, e1] at h5
     exact h5
    have hlim := hA.lim
    have hS1 := hS.fillO (d := env.b + env.n) (v := a.eval x) (fq := none') (fl' := none') (fun hc => absurd hc (by omega)) rfl hsv (fun _ h => h.elim) (fun _ h => h.elim)
    have hA1 : AR env gh { a with defers := { target := .fn (.func f) vs.toArray, args := us.toArray } :: a.defers } (updV V (env.b + env.n) (a.eval x)) := by
     refine ⟨hA.size, fun i hi => ?_, ?_, hA.lim, fun i hi => ?_⟩
     ·unfold updV; rw [if_neg (by omega)]; exact hA.tmps i hi
     ·rw [hdf, hd0, show updV V (env.b + env.n) (a.eval x) (env.b + env.n) = a.eval x by simp [updV], hv]; rfl
     ·unfold updV; rw [if_neg (by omega)]; exact hA.keep i hi
    obtain ⟨st', V', fp', k1, k2, k3⟩ := zNha (v := undef) (fq := none') hS1 hA1 rfl h1 trivial (fun _ h => h.elim)
    have hca : c.args = #[] := by apply Array.ext'; rw [hargs]
    have hrun : (execOp a.eval o).run P w = .ok (.defer { target := .fn (.func f) vs.toArray, args := us.toArray }) w := by
     simp only [execOp, ho, resolve, hcal, hv, hca, Deferred.ofValue, Sem.run_bind, Sem.run_pure, Result.andThen_ok, Array.map_empty, Array.append_empty]
    unfold Oper.wp
    rw [hrun]
    exact hN _ _ _ _ _ _ k2 k3 k1
   ·simp [RM.run] at h1
  ·simp [RM.run] at h1
 ·simp [RM.run] at h
theorem zLpa (hE : EnvTy P env) (hF : EnvFn P env) (hC : CxOk P env gh e C res Q) (hS : SR e F w st V fp none') (hA : AR env gh a V) (hN : Nxt env gh e K res next) (h : (evOp env o).run C st K = some res) : o.wp P a w next Q := by
 have hfail : ∀ {p : Op}, o.op = p → (RM.fail : RM Unit).run C st K = some res → o.wp P a w next Q := fun _ h => by simp [RM.run] at h
 cases ho : o.op with
 | move x => exact zqia (zQua ho hS hA hN h)
 | assign x => exact zqia (zira ho hS hA hN h)
 | pick c x y => exact zqia (zPua ho hS hA hN h)
 | alloc T => exact zHva hE ho hS hA hN h
 | box T x => exact zdya hE ho hS hA hN h
 | build T ps => exact zqia (zUsa hE ho hS hA hN h)
 | buildSlice T n ps => exact zupa hE ho hS hA hN h
 | load T x => exact zXxa (zRua hE ho hS hA hN h)
 | store T x y => exact zBva hE ho hS hA hN h
 | nilCheck x => exact zqia (zsoa ho hS hA hN h)
 | binOp op T x y U => exact zqia (zVsa hE ho hS hA hN h)
 | unOp op T x => exact zqia (zOua ho hS hA hN h)
 | convert S T x => exact zTsa hE ho hS hA hN h
 | makeFunc fn first caps =>
  cases fn with
  | func f => exact zqia (ztoa ho hS hA hN h)
  | _ => simp only [evOp, ho] at h; exact hfail ho h
 | makeInterface T x => exact znna hE ho hS hA hN h
 | panic x => exact zCva hC ho hS hA h
 | makeSlice T n c => exact zsqa hE ho hS hA hN h
 | slice T x lo hi mx =>
  cases mx with
  | none => exact zqia (zPsa hE ho hS hA hN h)
  | some _ => simp only [evOp, ho] at h; exact hfail ho h
 | fieldAddr S x i => exact zqia (zpna hE ho hS hA hN h)
 | field T x i => exact zqia (zSsa hE ho hS hA hN h)
 | indexAddr T x i => exact zqia (zona hE ho hS hA hN h)
 | index T x i => exact zqia (zRsa hE ho hS hA hN h)
 | extract x i => exact zqia (ztpa ho hS hA hN h)
 | defer c => exact zEva ho hS hA hN h
 | call c =>
  cases hc : c.callee with
  | value x => exact zjxa hF hC ho hc hS hA hN h
  | builtin b =>
   simp only [evOp, ho, hc] at h
   generalize hxs : c.args.toList = xs at h
   generalize hTs : c.argTypes.toList = Ts at h
   have h0 := h
   unfold evB at h
   split at h
   ·exact zqia (zixa hE ho hc hxs hTs hS hA hN h0)
   ·exact zqia (zfxa ho hc hxs hS hA hN (by rw [hTs]; exact h0))
   ·exact zqia (zgxa ho hc hxs hS hA hN (by rw [hTs]; exact h0))
   ·exact zaua hE ho hc hxs hTs hS hA hN h0
   ·exact zGva hE ho hc hxs hTs hS hA hN h0
   ·exact hfail ho h
  | _ => simp only [evOp, ho, hc] at h; exact hfail ho h
 | _ => simp only [evOp, ho] at h; exact hfail ho h
end
end Go.Trm
namespace Go.Trm
section
variable {P : Program} {env : Env} {e : Entry} {F : Blks} {w : World} {st : St} {V : Nat → Value} {fp : Nat → Blks} {fl : Blks} {a : Act} {R : Type} {res : R} {C : Cx R} {gh : Nat → Value} {Q : Exit → Act → World → Prop}
theorem zyva {st : St} {d : Nat} {v : SV} (h : st d = v) : st.put d v = st := by
 funext i
 by_cases hi : i = d
 ·subst hi; rw [zoca, h]
 ·rw [zGba hi]
theorem ztsa {dst : Option Nat} (hd : ∀ d, dst = some d → d < env.n) (hS : SR e F w st V fp none') (hA : AR env gh a V) : ∃ V' fp', SR e F w (skipS env st dst) V' fp' none' ∧ AR env gh (a.put dst undef) V' := by
 cases dst with
 | none => exact ⟨V, fp, hS, hA⟩
 | some d =>
  exact ⟨_, _, hS.fillO (fq := none') (fl' := none') (hA.gd (hd _ rfl)) rfl ⟨[], rfl, rfl, fun _ => none', ⟨fun _ _ _ _ hb => hb.elim⟩, fun _ _ hb => hb.elim, fun k t m x hk => by simp at hk⟩ (fun _ hb => hb.elim) (fun _ hb => hb.elim), hA.put (hd _ rfl)⟩
theorem zkva {d : Nat} (hA : AR env gh a V) (hd : d < env.n) : a.tmps[d]? = some (V (env.b + d)) := by
 have h1 : d < a.tmps.size := by rw [hA.size]; exact hd
 have h2 := hA.tmps d hd
 rw [Array.getD, dif_pos h1] at h2
 rw [Array.getElem?_eq_getElem h1]
 exact congrArg some h2
theorem zpta {ops : Array Oper} {o : Oper} {K : St → Option R} (hS : SR e F w st V fp none') (hA : AR env gh a V) (h : evG env C ops.toList o st K = some res) :
  (Region.wanted o (yielded ops a.tmps) = true ∧ (evOp env o).run C st (fun _ st => K st) = some res) ∨
  (Region.wanted o (yielded ops a.tmps) = false ∧ K (skipS env st o.dst) = some res ∧ ∀ d, o.dst = some d → d < env.n) := by
 unfold evG at h
 split at h
 ·rename_i hg
  exact .inl ⟨by simp [Region.wanted, hg], h⟩
 ·rename_i j want hg
  split at h
  ·cases h
  ·rename_i d hj
   have hjd : (ops[j]?).bind (·.dst) = some d := by
    rw [← Array.getElem?_toList]
    split at hj
    ·rename_i oj ho; rw [ho]; exact hj
    ·cases hj
   split at h
   ·cases h
   ·rename_i hdn
    have hyd : yielded ops a.tmps j = match V (env.b + d) with | .bool b => some b | _ => none := by
     unfold yielded
     rw [hjd, Option.bind_some, zkva hA (zala hdn)]
     split
     ·rename_i heq; simp only [Option.some.injEq] at heq; rw [heq]
     ·rename_i hne
      split
      ·rename_i b hb; exact absurd (by rw [hb]) (hne b)
      ·rfl
    have hsv := hS.sv (env.b + d)
    split at h
    ·rename_i b hst
     rw [hst] at hsv
     have hv : V (env.b + d) = .bool b := zpla (m := .s) (hsv.1 nofun) nofun hsv.2
     rw [hv] at hyd
     simp only at hyd
     cases b <;> cases want <;> simp only [cond_true, cond_false, zyva hst] at h
     ·exact .inl ⟨by simp [Region.wanted, hg, hyd], h⟩
     ·exact .inr ⟨by simp [Region.wanted, hg, hyd], zEoa h⟩
     ·exact .inr ⟨by simp [Region.wanted, hg, hyd], zEoa h⟩
     ·exact .inl ⟨by simp [Region.wanted, hg, hyd], h⟩
    ·rename_i hst
     rw [hst] at hsv
     obtain ⟨vs, e1, e2, _⟩ := hsv
     have hvs : vs = [] := List.eq_nil_of_length_eq_zero e2
     have hv : V (env.b + d) = .tuple #[] := by rw [e1, hvs]
     rw [hv] at hyd
     exact .inr ⟨by simp [Region.wanted, hg, hyd], zEoa h⟩
    ·cases h
end
end Go.Trm
namespace Go.Trm
section
variable {P : Program} {ops : Array Oper} {Q : Exit → Act → World → Prop} {md : Region.Mode} {C : World → Prop}
def wpC (P : Program) (md : Region.Mode) (ops : Array Oper) (Q : Exit → Act → World → Prop) (C : World → Prop) : Nat → Array Bool → Act → World → Prop
 | 0, listed, a, w => C w ∧ Region.ready md ops listed = [] ∧ Q .normal a w
 | fuel + 1, listed, a, w => C w ∧ (Region.ready md ops listed = [] → Q .normal a w) ∧
  ∀ i ∈ Region.ready md ops listed, wpOp P ops Q i (wpC P md ops Q C fuel (listed.setIfInBounds i true)) a w
theorem zAua : ∀ {fuel : Nat} {listed : Array Bool} {a : Act} {w : World}, wpC P md ops Q C fuel listed a w → wpAny P md ops Q fuel listed a w
 | 0, _, _, _, h => h.2
 | _ + 1, _, _, _, h => ⟨h.2.1, fun i hi => wpOp_mono (fun _ _ h => zAua h) (h.2.2 i hi)⟩
theorem wpC_C : ∀ {fuel : Nat} {listed : Array Bool} {a : Act} {w : World}, wpC P md ops Q C fuel listed a w → C w
 | 0, _, _, _, h => h.1
 | _ + 1, _, _, _, h => h.1
def YC (P : Program) (ops : Array Oper) (C : World → Prop) (o : Oper) (v : Value) (a : Act) : Prop :=
 (Region.wanted o (yielded ops a.tmps) = true ∧ ∀ w, C w → (execOp a.eval o).run P w = .ok (.value v) w) ∨
 (Region.wanted o (yielded ops a.tmps) = false ∧ v = undef)
theorem YC.wpOp {i : Nat} {o : Oper} {v : Value} {a : Act} (hi : ops[i]? = some o) (hy : YC P ops C o v a) {K : Act → World → Prop} {w : World} (hw : C w) (h : K (a.put o.dst v) w) : wpOp P ops Q i K a w := by
 unfold Go.wpOp
 simp only [hi]
 rcases hy with ⟨hw', hv⟩ | ⟨hw', rfl⟩
 ·simp only [hw', if_true, Oper.wp, hv w hw, Oper.upon]; exact .inl h
 ·simp only [hw', Bool.false_eq_true, if_false]; exact h
theorem YC.of_same {o : Oper} {v : Value} {a a' : Act} (hy : YC P ops C o v a) (he : execOp a'.eval o = execOp a.eval o) (hw : Region.wanted o (yielded ops a'.tmps) = Region.wanted o (yielded ops a.tmps)) : YC P ops C o v a' := by
 unfold YC at *
 rw [he, hw]
 exact hy
theorem zGta {j : Nat} {oi oj : Oper} {v : Value} (hj : ops[j]? = some oj) (hap : oi.apart ops oj = true)
  (hsi : ∀ cs b, oi.op ≠ .select cs b) (hsj : ∀ cs b, oj.op ≠ .select cs b)
  (hQ : ∀ c a w, Q (.panic c) (a.put oi.dst v) w → Q (.panic c) a w) {K : Act → World → Prop} {a : Act} {w : World}
  (hy : YC P ops C oi v a) (h : wpOp P ops Q j K (a.put oi.dst v) w) :
  wpOp P ops Q j (fun a' w' => YC P ops C oi v a' ∧ K (a'.put oi.dst v) w') a w := by
 obtain ⟨h1, h2, h3⟩ := Oper.apart_spec hap
 have keep : ∀ (a : Act), YC P ops C oi v a → ∀ u, YC P ops C oi v (a.put oj.dst u) := fun a hy u =>
  hy.of_same (execOp_put oi hsi a oj.dst u h3) (wanted_put oi a oj.dst u h3)
 have keepD : ∀ d, YC P ops C oi v { a with defers := d :: a.defers } := fun d => hy.of_same rfl rfl
 unfold wpOp at *
 simp only [hj] at *
 rw [wanted_put oj a oi.dst v h1] at h
 split
 ·rename_i hw
  simp only [hw, if_true] at h
  rcases h with h | ⟨hasks, hlets⟩
  case inr => exact .inr ⟨by unfold Oper.asks at *; rw [execOp_put oj hsj a oi.dst v h1] at hasks; exact hasks, hlets⟩
  refine .inl ?_
  unfold Oper.wp at *
  rw [execOp_put oj hsj a oi.dst v h1] at h
  generalize (execOp a.eval oj).run P w = r at *
  cases r with
  | ok n w' =>
   cases n <;> simp only [Oper.upon] at h ⊢
   case value u => exact ⟨keep a hy u, by rw [← Act.put_comm a v u h2]; exact h⟩
   case skip => exact ⟨keep a hy _, by rw [← Act.put_comm a v undef h2]; exact h⟩
   case defer d =>
    refine ⟨keep _ (keepD d) _, ?_⟩
    rw [← Act.put_comm _ v undef h2, ← Act.put_defers]
    exact h
   case enter f args =>
    refine Calls.mono h fun e w'' he => ?_
    cases e with
    | returned u => exact ⟨keep a hy u, by rw [← Act.put_comm a v u h2]; exact he⟩
    | panicked c => exact hQ _ _ _ he
    | outgrown => exact he
   case row row args => exact Rows.mono h fun u w'' he => ⟨keep a hy u, by rw [← Act.put_comm a v u h2]; exact he⟩
  | halt x w' =>
   cases x <;> simp only [Oper.upon] at h ⊢
   case panic u => exact hQ _ _ _ h
 ·rename_i hw
  simp only [hw] at h
  exact ⟨keep a hy _, by rw [← Act.put_comm a v undef h2]; exact h⟩
theorem zHta {i : Nat} {oi : Oper} {v : Value} (hi : ops[i]? = some oi) (hsel : ∀ (j : Nat) (o : Oper) cs b, ops[j]? = some o → o.op ≠ .select cs b)
  (hQ : ∀ c a w, Q (.panic c) (a.put oi.dst v) w → Q (.panic c) a w) :
  ∀ (fuel : Nat) (listed : Array Bool) (a : Act) (w : World),
   (∀ j oj, ops[j]? = some oj → j ≠ i → listed.getD j true = false → (∀ e ∈ oj.after, Region.binds md e = true → e.on ≠ i) → oi.apart ops oj = true) →
   i ∈ Region.ready md ops listed → YC P ops C oi v a →
   wpC P md ops Q C fuel (listed.setIfInBounds i true) (a.put oi.dst v) w → wpC P md ops Q C (fuel + 1) listed a w := by
 intro fuel
 induction fuel with
 | zero =>
  intro listed a w _ hr hy H
  refine ⟨H.1, fun h => (by rw [h] at hr; cases hr), fun j hj => ?_⟩
  by_cases hji : j = i
  ·subst hji; exact hy.wpOp hi H.1 H
  ·have := ready_mono hj hji
   rw [H.2.1] at this
   cases this
 | succ fuel ih =>
  intro listed a w hfree hr hy H
  refine ⟨H.1, fun h => (by rw [h] at hr; cases hr), fun j hj => ?_⟩
  by_cases hji : j = i
  ·subst hji; exact hy.wpOp hi H.1 H
  ·have h1 := H.2.2 j (ready_mono hj hji)
   obtain ⟨hjun, oj, hoj, hall⟩ := mem_ready.1 hj
   have hnot : ∀ e ∈ oj.after, Region.binds md e = true → e.on ≠ i := fun e he hb heq => by
    have h1 := hall e he hb
    have h0 := (mem_ready.1 hr).1
    rw [heq] at h1
    rcases Nat.lt_or_ge i listed.size with h' | h'
    ·simp [h'] at h0 h1; rw [h0] at h1; cases h1
    ·simp [Array.getElem?_eq_none h'] at h1
   have h2 := zGta hoj (hfree j oj hoj hji hjun hnot) (fun cs b => hsel i oi cs b hi) (fun cs b => hsel j oj cs b hoj) hQ hy h1
   have hfree' : ∀ k ok, ops[k]? = some ok → k ≠ i → (listed.setIfInBounds j true).getD k true = false →
     (∀ e ∈ ok.after, Region.binds md e = true → e.on ≠ i) → oi.apart ops ok = true := fun k ok hk hki hun hno => by
    refine hfree k ok hk hki ?_ hno
    by_cases hjk : j = k
    ·subst hjk; exact hjun
    ·rw [getD_set_ne true hjk] at hun; exact hun
   refine wpOp_mono (fun a' w' h3 => ih (listed.setIfInBounds j true) a' w' hfree' (ready_mono hr (Ne.symm hji)) h3.1 ?_) h2
   rw [Array.setIfInBounds_comm _ _ hji]
   exact h3.2
theorem zhva {i : Nat} {oi : Oper} {v : Value} {fuel : Nat} {listed : Array Bool} {a : Act} {w : World} (hi : ops[i]? = some oi)
  (hs : Region.noSelect ops = true) (hf : Region.free md ops listed i = true) (hr : i ∈ Region.ready md ops listed)
  (hQ : ∀ c a w, Q (.panic c) (a.put oi.dst v) w → Q (.panic c) a w) (hy : YC P ops C oi v a)
  (h : wpC P md ops Q C fuel (listed.setIfInBounds i true) (a.put oi.dst v) w) : wpC P md ops Q C (fuel + 1) listed a w :=
 zHta hi (Region.noSelect_spec hs) hQ fuel listed a w (Region.free_spec hi hf) hr hy h
end
theorem zDva {env : Env} {e : Entry} {F : Blks} {w : World} {st : St} {V : Nat → Value} {fp : Nat → Blks} {a : Act} {o : Oper} {R : Type} {K : Unit → St → Option R} {res : R} {C : Cx R} {gh : Nat → Value} {next : Act → World → Prop} {P : Program} {T : TypeId} {s : Nat}
  {U : TypeId} {t : Ty} {y : (Ty.ptr U t).I} (hE : EnvTy P env) (ho : o.op = .load T (.tmp s)) (hst : st (env.b + s) = .v (.ptr U t) .s y) (hS : SR e F w st V fp none') (hA : AR env gh a V) (hN : Nxt env gh e K res next) (h : (evOp env o).run C st K = some res) :
  ∃ v, (∀ w', (∀ b, F b → Same w w' b) → (execOp a.eval o).run P w' = .ok (.value v) w') ∧ next (a.put o.dst v) w := by
 simp only [evOp, ho, rdP] at h
 obtain ⟨sv0, h, hx0⟩ := zSba h
 have hsv0 : sv0 = .v (.ptr U t) .s y := by
  rcases hx0 with ⟨s', hs', hs, h9⟩ | ⟨c, hc, _⟩ | ⟨f, hf, _⟩
  ·cases hs'
   rw [hst] at h9
   exact h9
  ·cases hc
  ·cases hf
 subst hsv0
 dsimp only at h
 obtain ⟨sv, h1, hx⟩ := zSba h
 rcases hx with ⟨s', hs', hs, rfl⟩ | ⟨c, hc, _⟩ | ⟨f, hf, _⟩
 ·cases hs'
  have hev : a.eval (.tmp s) = V (env.b + s) := hA.tmps s hs
  have hsv := hS.sv (env.b + s)
  rw [hst] at h1 hsv
  cases y with
  | none => simp [RM.run] at h1
  | some y =>
   dsimp only at h1
   have hr := hsv.2
   simp only [rep] at hr
   obtain ⟨A, e1, ad, rfl, hsp, e2, e3, e4⟩ := hr
   obtain ⟨b, k, sp⟩ := ad
   simp only at hsp
   subst hsp
   have hval : a.eval (.tmp s) = .pointer (some ⟨b, k, none⟩) := by rw [hev, zNua (hsv.1 nofun)]; exact e1
   split at h1
   ·rename_i hT
    have h1' : t.agg = false → one (rowW w b k 0) := fun hag => zSha e4 nofun hag
    obtain ⟨st', V', fp', F', k1, k2, k3⟩ := zWla (v := valOf t (rowW w b k)) (fq := none') hS hA h1 (fun _ => zdga h1') (rep_s (zjaa (fun j hj => (ziga h1' j hj).symm) e4)) (fun _ hb => hb)
    refine ⟨_, fun w' hw' => ?_, hN _ _ _ _ _ _ k2 k3 k1⟩
    have hsm := hw' b e2
    have e3' := (zJba hsm).2 e3
    rw [← zCca hsm]
    simp only [execOp, ho, hval, Instr.loadAt, Instr.sureAddr, Sem.run_bind, Sem.run_pure, Result.andThen_ok, pure_bind, zBga (Env.is_ok hE hT) e3']
   ·simp [RM.run] at h1
 ·cases hc
 ·cases hf
section
variable {P : Program} {env : Env} {e : Entry} {R : Type} {res : R} {C : Cx R} {gh : Nat → Value}
def Entry.now (e : Entry) (F : Blks) (w : World) : Entry := ⟨w, fun b => ¬ F b ∧ (e.O b ∨ e.w0.heap.size ≤ b), F⟩
theorem SR.now {F : Blks} {w : World} {st : St} {V : Nat → Value} {fp : Nat → Blks} (h : SR e F w st V fp none') : SR (e.now F w) F w st V fp none' :=
 ⟨h.sv, h.disj, h.notF, h.inH, h.inF, h.flD, h.flF, h.flH, Grew.refl _, fun _ _ _ => rfl, fun i b hb => .inl ⟨h.notF i b hb, h.g3 i b hb⟩, fun _ hb => hb.elim, fun _ hb => hb, fun _ hb => .inl hb⟩
theorem SR.then {F F' : Blks} {w w' : World} {st st' : St} {V V' : Nat → Value} {fp fp' : Nat → Blks} (h : SR e F w st V fp none') (h' : SR (e.now F w) F' w' st' V' fp' none') : SR e F' w' st' V' fp' none' := by
 have h1 := h'.g1.size
 have h0 := h.g1.size
 have hs : (e.now F w).w0.heap.size = w.heap.size := rfl
 refine ⟨h'.sv, h'.disj, h'.notF, h'.inH, h'.inF, h'.flD, h'.flF, h'.flH, h.g1.trans h'.g1, fun b hb hO => ?_, fun i b hb => ?_, fun _ hb => hb.elim, fun b hb => h'.g5 b (h.g5 b hb), fun b hb => ?_⟩
 ·refine zBea (h.g2 b hb hO) (h'.g2 b (by omega) fun hc => ?_)
  rcases hc.2 with hc | hc
  ·exact hO hc
  ·omega
 ·rcases h'.g3 i b hb with hb | hb
  ·exact hb.2
  ·right; omega
 ·rcases h'.g6 b hb with hb | hb | hb
  ·exact h.g6 b hb
  ·exact .inr hb.2
  ·right; right; omega
theorem CxOk.now {Q : Exit → Act → World → Prop} {F : Blks} {w : World} {st : St} {V : Nat → Value} {fp : Nat → Blks} (h : SR e F w st V fp none') (hC : CxOk P env gh e C res Q) : CxOk P env gh (e.now F w) C res Q :=
 ⟨fun p ch F' w' st' V' fp' a hS' hA hp hk => hC.pan p ch _ _ _ _ _ a (h.then hS') hA hp hk, ⟨h.gl hC.gl, fun b hb => ⟨fun hc => hc.1 hb, h.inF b hb⟩⟩, hC.inl⟩
def Cl (ro : Bool) (F : Blks) (w w' : World) : Prop := if ro = true then w' = w else ∀ b, F b → Same w w' b
theorem zZpa {P : Program} {ops : Array Oper} {Q : Exit → Act → World → Prop} {md : Region.Mode} {C C' : World → Prop} (hC : ∀ w, C' w → C w) : ∀ {fuel : Nat} {listed : Array Bool} {a : Act} {w : World}, wpC P md ops Q C' fuel listed a w → wpC P md ops Q C fuel listed a w
 | 0, _, _, _, h => ⟨hC _ h.1, h.2⟩
 | _ + 1, _, _, _, h => ⟨hC _ h.1, h.2.1, fun i hi => wpOp_mono (fun _ _ h => zZpa hC h) (h.2.2 i hi)⟩
theorem ztua {l : List (Option R)} {r : R} (h : evAll l = some r) : ∀ x ∈ l, x = some r := by
 induction l with
 | nil => cases h
 | cons x xs ih =>
  cases xs with
  | nil => intro y hy; simp only [List.mem_singleton] at hy; rw [hy]; exact h
  | cons z zs =>
   obtain ⟨h1, h2⟩ := zfpa (show both x (evAll (z :: zs)) = some r from h)
   intro y hy
   rcases List.mem_cons.1 hy with hy | hy
   ·rw [hy]; exact h1
   ·exact ih h2 y hy
theorem zuta (hE : EnvTy P env) (hF : EnvFn P env) {ops : Array Oper} {ro : Bool} (hsel : Region.noSelect ops = true) {K : St → Option R} {Q : Exit → Act → World → Prop} (hQp : ∀ (i : Nat) o c a w v, ops[i]? = some o → Q (.panic c) (a.put o.dst v) w → Q (.panic c) a w) :
  ∀ (fuel : Nat) (listed : Array Bool) (e : Entry) (F : Blks) (w : World) (st : St) (V : Nat → Value) (fp : Nat → Blks) (a : Act), CxOk P env gh e C res Q → (∀ F w st V fp a, SR e F w st V fp none' → AR env gh a V → K st = some res → Q .normal a w) →
   SR e F w st V fp none' → AR env gh a V → zMpa env C ops ro fuel listed st K = some res → wpC P .any ops Q (Cl ro F w) fuel listed a w := by
 have hCl : ∀ {F : Blks} {w : World}, Cl ro F w w := by
  intro F w
  unfold Cl
  split
  ·rfl
  ·exact fun b hb => rfl
 intro fuel
 induction fuel with
 | zero =>
  intro listed e F w st V fp a hC hQ hS hA h
  simp only [zMpa] at h
  split at h
  ·rename_i hr
   exact ⟨hCl, hr, hQ _ _ _ _ _ _ hS hA h⟩
  ·cases h
 | succ fuel ih =>
  intro listed e F w st V fp a hC hQ hS hA h
  have hQ' : ∀ F' w' st V fp a, SR (e.now F w) F' w' st V fp none' → AR env gh a V → K st = some res → Q .normal a w' := fun F' w' st V fp a hS' hA' h' => hQ _ _ _ _ _ _ (hS.then hS') hA' h'
  simp only [zMpa] at h
  split at h
  ·rename_i i hfi
   have hmem := List.mem_of_find?_eq_some hfi
   have hprop := List.find?_some hfi
   simp only [Bool.and_eq_true] at hprop
   split at h
   ·rename_i o ho
    have hst : zova env ro st o = true := by
     have := hprop.2
     unfold opAt at this
     rw [ho] at this
     exact this
    have hmono : ∀ {F' : Blks} {a' : Act}, (∀ b, F b → F' b) → wpC P .any ops Q (Cl ro F' w) fuel (listed.setIfInBounds i true) a' w → wpC P .any ops Q (Cl ro F w) fuel (listed.setIfInBounds i true) a' w := by
     intro F' a' hFF h
     refine zZpa (fun x hx => ?_) h
     unfold Cl at hx ⊢
     split
     ·rename_i hr; rw [if_pos hr] at hx; exact hx
     ·rename_i hr; rw [if_neg hr] at hx; exact fun b hb => hx b (hFF b hb)
    have key : ∃ v, YC P ops (Cl ro F w) o v a ∧ wpC P .any ops Q (Cl ro F w) fuel (listed.setIfInBounds i true) (a.put o.dst v) w := by
     rcases zpta hS hA h with ⟨hw, h⟩ | ⟨hw, h⟩
     ·have hN : Nxt env gh (e.now F w) (fun _ st => zMpa env C ops ro fuel (listed.setIfInBounds i true) st K) res (fun a' w' => w' = w → wpC P .any ops Q (Cl ro F w) fuel (listed.setIfInBounds i true) a' w') := by
       intro F' w' st' V' fp' a' hS' hA' h' hw'
       subst hw'
       exact hmono (fun b hb => hS'.g5 b hb) (ih _ _ _ _ _ _ _ _ (hC.now hS) hQ' hS' hA' h')
      unfold zova at hst
      simp only [Bool.or_eq_true] at hst
      rcases hst with hp | hp | hl
      ·obtain ⟨v, v1, v2⟩ := zsua hE hp hS.now hA hN h
       exact ⟨v, .inl ⟨hw, fun w' _ => v1 w'⟩, v2 rfl⟩
      ·obtain ⟨v, v1, v2⟩ := zFva hE hp hS.now hA hN h
       exact ⟨v, .inl ⟨hw, fun w' _ => v1 w'⟩, v2 rfl⟩
      ·split at hl
       ·rename_i T s hop
        simp only [Bool.or_eq_true] at hl
        rcases hl with hr | hl
        ·obtain ⟨v, v1, v2⟩ := zRua hE hop hS.now hA hN h
         refine ⟨v, .inl ⟨hw, fun w' hw' => ?_⟩, v2 rfl⟩
         unfold Cl at hw'
         rw [if_pos hr] at hw'
         rw [hw']
         exact v1
        ·split at hl
         ·rename_i U t y hsy
          obtain ⟨v, v1, v2⟩ := zDva hE hop hsy hS.now hA hN h
          refine ⟨v, .inl ⟨hw, fun w' hw' => v1 w' ?_⟩, v2 rfl⟩
          unfold Cl at hw'
          split at hw'
          ·rw [hw']; exact fun b _ => rfl
          ·exact hw'
         ·rename_i hsy
          simp only [evOp, hop, rdP] at h
          obtain ⟨sv0, h, hx⟩ := zSba h
          rcases hx with ⟨s', hs', hs, rfl⟩ | ⟨c, hc, _⟩ | ⟨f, hf, _⟩
          ·cases hs'
           rw [hsy] at h
           obtain ⟨sv, h1, hx⟩ := zSba h
           rcases hx with ⟨s', hs', hs, rfl⟩ | ⟨c, hc, _⟩ | ⟨f, hf, _⟩
           ·cases hs'
            rw [hsy] at h1
            simp [RM.run] at h1
           ·cases hc
           ·cases hf
          ·cases hc
          ·cases hf
         ·rename_i r p hsy
          simp only [evOp, hop] at h
          obtain ⟨sv, h1, hx⟩ := zSba h
          have hxx : sv = .bx r p := by
           rcases hx with ⟨s', hs', hs, rfl⟩ | ⟨c, hc, _⟩ | ⟨f, hf, _⟩
           ·cases hs'; exact hsy
           ·cases hc
           ·cases hf
          subst hxx
          obtain ⟨v, v1, v2⟩ := zQsa hE hop (zqwa hS.now hA hx) hS.now hA hN h1
          refine ⟨v, .inl ⟨hw, fun w' hw' => v1 w' ?_⟩, v2 rfl⟩
          unfold Cl at hw'
          split at hw'
          ·rw [hw']; exact fun b _ => rfl
          ·exact hw'
         ·cases hl
       ·cases hl
     ·obtain ⟨V', fp', h1, h2⟩ := ztsa (dst := o.dst) h.2 hS.now hA
      exact ⟨undef, .inr ⟨hw, rfl⟩, ih _ _ _ _ _ _ _ _ (hC.now hS) hQ' h1 h2 h.1⟩
    obtain ⟨v, k1, k2⟩ := key
    exact zhva ho hsel hprop.1 hmem (fun c a w hc => hQp i o c a w _ ho hc) k1 k2
   ·cases h
  ·split at h
   ·rename_i hr
    exact ⟨hCl, fun _ => hQ _ _ _ _ _ _ hS hA h, fun i hi => by rw [hr] at hi; cases hi⟩
   ·split at h
    ·have hN : ∀ i F' w' st' V' fp' a', SR (e.now F w) F' w' st' V' fp' none' → AR env gh a' V' → zMpa env C ops false fuel (listed.setIfInBounds i true) st' K = some res → wpC P .any ops Q (Cl false F w) fuel (listed.setIfInBounds i true) a' w' := by
      intro i F' w' st' V' fp' a' hS' hA' h'
      refine zZpa (fun x hx => ?_) (ih _ _ _ _ _ _ _ _ (hC.now hS) hQ' hS' hA' h')
      unfold Cl at hx ⊢
      simp only [Bool.false_eq_true, if_false] at hx ⊢
      exact fun b hb => zBea (hS'.g2 b (hS.inF b hb) (fun hc => hc.1 hb)) (hx b (hS'.g5 b hb))
     refine ⟨hCl, (fun hc => by rw [hc] at h; cases h), fun j hj => ?_⟩
     have h := ztua h _ (List.mem_map.2 ⟨j, hj, rfl⟩)
     split at h
     ·rename_i o ho
      unfold wpOp
      rw [ho]
      rcases zpta hS.now hA h with ⟨hw, h⟩ | ⟨hw, h⟩
      ·simp only
       rw [if_pos hw]
       exact .inl (zLpa hE hF (hC.now hS) hS.now hA (fun F' w' st' V' fp' a' hS' hA' h' => hN j F' w' st' V' fp' a' hS' hA' h') h)
      ·simp only
       rw [hw]
       obtain ⟨V', fp', h1, h2⟩ := ztsa (dst := o.dst) h.2 hS.now hA
       exact hN _ _ _ _ _ _ _ h1 h2 h.1
     ·cases h
    ·cases h
end
end Go.Trm
namespace Go.Trm
def toX : Ex → Exit
 | .normal => .normal
 | .exit i => .exit i
 | .ret => .ret
 | .pan _ => .normal
def Ex.isPan : Ex → Bool
 | .pan _ => true
 | _ => false
structure Good {R : Type} (env : Env) (gh : Nat → Value) (e : Entry) (K : Ex → St → Option R) (res : R) (Q : Exit → Act → World → Prop) : Prop where
 ex : ∀ x F w st V fp a, x.isPan = false → SR e F w st V fp none' → AR env gh a V → K x st = some res → Q (toX x) a w
 pan : ∀ p ch F w st V fp a, SR e F w st V fp none' → AR env gh a V → PanR F w p ch → K (.pan p) st = some res → Q (.panic ch) a w
def zOxa (env : Env) (Q : Exit → Act → World → Prop) : Prop := ∀ c a w d v, d ∉ env.rs → Q (.panic c) (a.put (some d) v) w → Q (.panic c) a w
section
variable {P : Program} {env : Env} {e : Entry} {F : Blks} {w : World} {st : St} {V : Nat → Value} {fp : Nat → Blks} {fl : Blks} {a : Act} {R : Type} {res : R} {C : Cx R} {gh : Nat → Value} {Q : Exit → Act → World → Prop}
theorem zZta (hE : EnvTy P env) (hF : EnvFn P env) (hC : CxOk P env gh e C res Q) {ops : Array Oper} {K : St → Option R} (hQ : ∀ F w st V fp a, SR e F w st V fp none' → AR env gh a V → K st = some res → Q .normal a w) :
  ∀ (os : List Oper) (i : Nat) (F : Blks) (w : World) (st : St) (V : Nat → Value) (fp : Nat → Blks) (a : Act), ops.toList.drop i = os → SR e F w st V fp none' → AR env gh a V → evOps env C ops.toList os st K = some res → wpOps P ops Q (List.range' i os.length) a w := by
 intro os
 induction os with
 | nil =>
  intro i F w st V fp a hd hS hA h
  exact hQ _ _ _ _ _ _ hS hA h
 | cons o os ih =>
  intro i F w st V fp a hd hS hA h
  have hi : ops[i]? = some o := by
   rw [← Array.getElem?_toList]
   have := congrArg (fun l => l[0]?) hd
   simpa [List.getElem?_drop] using this
  have hd' : ops.toList.drop (i + 1) = os := by
   have := congrArg List.tail hd
   simpa [List.tail_drop] using this
  simp only [List.length_cons, List.range'_succ, wpOps, hi]
  simp only [evOps] at h
  rcases zpta hS hA h with ⟨hw, h⟩ | ⟨hw, h⟩
  ·rw [if_pos hw]
   exact .inl (zLpa hE hF hC hS hA (fun F' w' st' V' fp' a' hS' hA' h' => ih (i + 1) F' w' st' V' fp' a' hd' hS' hA' h') h)
  ·rw [hw]
   obtain ⟨V', fp', h1, h2⟩ := ztsa (dst := o.dst) h.2 hS hA
   exact ih (i + 1) _ _ _ _ _ _ hd' h1 h2 h.1
theorem SR.only (hS : SR e F w st V fp none') (l : List Nat) : ∃ fp', SR e F w (st.only l) V fp' none' := by
 have hon : ∀ i, st.only l i = st i ∨ st.only l i = .un := by
  intro i
  unfold St.only
  induction l with
  | nil => right; rfl
  | cons s l ih =>
   simp only [List.map_cons, St.ofList]
   cases hb : Nat.beq i s with
   | true => left; rw [Nat.eq_of_beq_eq_true hb]
   | false => exact ih
 have hst : ∀ r, ∀ {t1 m1 x1}, st.only l r = .v t1 m1 x1 → st r = .v t1 m1 x1 := by
  intro r t1 m1 x1 h
  rcases hon r with h1 | h1
  ·rw [← h1]; exact h
  ·rw [h1] at h; cases h
 have hal : ∀ r q v, AlOk w st V r q v → AlOk w (st.only l) V r q v := fun r q v ha t1 m1 x1 h1 => ha t1 m1 x1 (hst r h1)
 refine ⟨fp, fun i => ?_, hS.disj, hS.notF, hS.inH, hS.inF, hS.flD, hS.flF, hS.flH, hS.g1, hS.g2, hS.g3, hS.g4, hS.g5, hS.g6⟩
 rcases hon i with h1 | h1
 ·rw [h1]
  have h2 := hS.sv i
  cases hsi : st i with
  | v t1 m1 x1 => rw [hsi] at h2; exact h2
  | al r q => rw [hsi] at h2; exact hal _ _ _ h2
  | lz r q => rw [hsi] at h2; exact fun t1 m1 x1 h3 => h2 t1 m1 x1 (hst r h3)
  | sub r q lo hi => rw [hsi] at h2; exact fun t1 m1 x1 h3 => h2 t1 m1 x1 (hst r h3)
  | fn f s caps =>
   rw [hsi] at h2
   obtain ⟨us, vs, e1, e2, e3⟩ := h2
   exact ⟨us, vs, e1, e2.imp (fun _ _ hb => hb) fun q u _ => hal _ _ _, e3.imp (fun _ _ hb => hb) fun q u _ => hal _ _ _⟩
  | bx r q =>
   rw [hsi] at h2
   exact h2
  | ifc T t1 x1 => rw [hsi] at h2; exact h2
  | tup l => rw [hsi] at h2; exact h2
  | nil => rw [hsi] at h2; exact h2
  | un => trivial
 ·rw [h1]; trivial
theorem SR.at (hS : SR e F w st V fp none') (o : Option (List Nat)) : ∃ fp', SR e F w (st.at o) V fp' none' := by
 cases o with
 | none => exact ⟨fp, hS⟩
 | some l => exact hS.only l
theorem zjja {Kk : Unit → St → Option R} : ∀ {l : List (Nat × Bool)} {F : Blks} {st : St} {fp : Nat → Blks}, SR e F w st V fp none' → (zUla l).run C st Kk = some res → ∃ F' st' fp', Kk () st' = some res ∧ SR e F' w st' V fp' none'
 | [], F, st, fp, hS, h => ⟨F, st, fp, h, hS⟩
 | (s, z) :: l, F, st, fp, hS, h => by
  unfold zUla at h
  cases z with
  | false => exact zjja hS h
  | true =>
   simp only [RM.run] at h
   have hgen : ∀ t m y, st s = .v t m y → m ≠ .j → (zOfa (some (s, [])) (zUla l)).run C st Kk = some res → ∃ F' st' fp', Kk () st' = some res ∧ SR e F' w st' V fp' none' := by
    intro t m y hst hm h
    have hsv := hS.sv s
    rw [hst] at hsv
    have hd : DataAt F w st V (V s) t m y (some (s, [])) :=
     ⟨hm, _, _, _, hst, y, by simp only [getP], by simp [ownP], by simp [inP], cv (V s), none, by simp [rs], by
      have h1 : V s = valOf t (cv (V s)) := hsv.1 hm
      have h2 := PartOf.all (c' := cv (V s)) t y
      rwa [← h1] at h2⟩
    obtain ⟨st1, fp1, F1, h2, hS1, _, _, _⟩ := znha hS hd nofun h
    exact zjja hS1 h2
   split at h
   ·exact zjja hS h
   ·simp [RM.run] at h
   ·rename_i t m y hm1 hm2 hst
    exact hgen _ _ _ hst (fun hc => by subst hc; exact hm2 rfl) h
   ·exact zjja hS h
theorem zEfa {l : List (Nat × Bool)} {K : St → Option R} (hS : SR e F w st V fp none') (h : zPfa l st K = some res) : ∃ F' st' fp', K st' = some res ∧ SR e F' w st' V fp' none' := by
 unfold zPfa at h
 obtain ⟨F', st', fp', h1, h2⟩ := zjja hS h
 obtain ⟨fp2, h3⟩ := h2.only (l.map Prod.fst)
 exact ⟨F', _, fp2, h1, h3⟩
theorem zwra (hm : P.follows .mixedOrders = true) (hE : EnvTy P env) (hF : EnvFn P env) {inl : Inl} (hI : InlOk P env.top inl) (hgl : GlE P e) {lp : Loops} : ∀ {c : Code} {R : Type} {K : Ex → St → Option R} {res : R} {Q : Exit → Act → World → Prop} {F : Blks} {w : World} {st : St} {V : Nat → Value} {fp : Nat → Blks} {a : Act},
  zZaa env lp inl c → zOxa env Q → Good env gh e K res Q → SR e F w st V fp none' → AR env gh a V → evC env lp inl c st K = some res → c.wp P Q a w := by
 have hcx : ∀ {R : Type} {K : Ex → St → Option R} {res : R} {Q : Exit → Act → World → Prop}, Good env gh e K res Q → CxOk P env gh e (cx inl K) res Q := fun hG => ⟨hG.pan, hgl, inl, hI, fun _ _ _ _ _ => rfl⟩
 intro c
 induction c with
 | skip => intro R K res Q F w st V fp a hL hP hG hS hA h; exact wp_skip (hG.ex .normal _ _ _ _ _ _ rfl hS hA h)
 | region id ops draw =>
  intro R K res Q F w st V fp a hL hP hG hS hA h
  obtain ⟨fp, hS⟩ := hS.at (env.lv id)
  cases draw with
  | true =>
   simp only [evC] at h
   split at h
   ·rename_i hsel
    simp only [Bool.and_eq_true] at hsel
    have hQp : ∀ (i : Nat) o c a w v, ops[i]? = some o → Q (.panic c) (a.put o.dst v) w → Q (.panic c) a w := by
     intro i o c a w v ho hq
     cases hd : o.dst with
     | none => rw [hd] at hq; exact hq
     | some d =>
      rw [hd] at hq
      refine hP c a w d v (fun hc => ?_) hq
      have h1 := List.all_eq_true.1 hsel.2 o (by rw [← Array.getElem?_toList] at ho; exact List.mem_of_getElem? ho)
      rw [hd] at h1
      have h2 := List.all_eq_true.1 h1 d hc
      rw [Nat.beq_refl] at h2
      cases h2
    have := zuta hE hF (ro := ops.toList.all fun o => zSra o.op || zBxa o.op) hsel.1 (K := fun st => K .normal st) (Q := Q) hQp ops.size (Array.replicate ops.size false) _ _ _ _ _ _ _ (hcx hG)
     (fun F w st V fp a hS hA h => hG.ex .normal _ _ _ _ _ _ rfl hS hA h) (hS.world (w' := { w with drawn := w.drawn + 1 }) (fun _ _ _ => rfl) ⟨⟨rfl, rfl, rfl⟩, Nat.le_refl _⟩ (fun b hb => hb.elim)) hA h
    exact wp_region_any hm (zAua this)
   ·cases h
  | false =>
   refine wp_region ?_
   have := zZta hE hF (hcx hG) (Q := Q) (fun F w st V fp a hS hA h => hG.ex .normal _ _ _ _ _ _ rfl hS hA h) ops.toList 0 _ _ _ _ _ _ (by simp) hS hA h
   rwa [List.range_eq_range', ← Array.length_toList]
 | seq x y ihx ihy =>
  intro R K res Q F w st V fp a hL hP hG hS hA h
  obtain ⟨hL1, hL2, hL3⟩ := hL
  have key : ∀ (out : Ex → List (Nat × Bool)) (tr : Bool) {F : Blks} {st : St} {fp : Nat → Blks}, SR e F w st V fp none' →
    evC env lp inl x st (fun e st => cond tr (zPfa (out e) st (fun st => match e with | .normal => evC env lp inl y st K | e => K e st)) (match e with | .normal => evC env lp inl y st K | e => K e st)) = some res → (Code.seq x y).wp P Q a w := by
   intro out tr F st fp hS h
   have hin : ∀ {ex : Ex} {F : Blks} {w : World} {st : St} {V : Nat → Value} {fp : Nat → Blks}, SR e F w st V fp none' → cond tr (zPfa (out ex) st (fun st => match ex with | .normal => evC env lp inl y st K | e => K e st)) (match ex with | .normal => evC env lp inl y st K | e => K e st) = some res →
     ∃ F' st' fp', SR e F' w st' V fp' none' ∧ (match ex with | .normal => evC env lp inl y st' K | e => K e st') = some res := by
    intro ex F w st V fp hS h
    cases tr with
    | true => simp only [cond_true] at h; obtain ⟨F', st', fp', h1, h2⟩ := zEfa hS h; exact ⟨F', st', fp', h2, h1⟩
    | false => exact ⟨F, st, fp, hS, h⟩
   refine wp_seq (ihx hL1 hP (Q := Exit.then (y.wp P Q) Q) ⟨fun ex F w st V fp a hx hS hA h => ?_, fun p ch F w st V fp a hS hA hp h => ?_⟩ hS hA h)
   ·obtain ⟨F', st', fp', hS', h'⟩ := hin hS h
    cases ex with
    | normal => exact ihy hL2 hP hG hS' hA h'
    | exit i => exact hG.ex (.exit i) _ _ _ _ _ _ rfl hS' hA h'
    | ret => exact hG.ex .ret _ _ _ _ _ _ rfl hS' hA h'
    | pan p => cases hx
   ·obtain ⟨F', st', fp', hS', h'⟩ := hin hS h
    obtain ⟨v, q1, u, q2, q3, q4, q5⟩ := hp
    exact hG.pan p ch _ _ _ _ _ _ hS' hA ⟨v, q1, u, q2, q3, q4, zpqa q3 q5⟩ h'
  simp only [evC] at h
  split at h
  ·exact key (fun _ => []) false hS h
  ·rename_i i hi
   obtain ⟨hd, out, h1⟩ := hL3 i hi R st _ res h
   obtain ⟨F', st', fp', h2, h3⟩ := zEfa hS h1
   exact key out true h3 h2
 | cond c x y ihx ihy =>
  intro R K res Q F w st V fp a hL hP hG hS hA h
  simp only [evC] at h
  split at h
  ·rename_i s
   split at h
   ·cases h
   ·rename_i hn
    split at h
    ·rename_i b hst
     have hsv := hS.sv (env.b + s)
     rw [hst] at hsv
     have hv : a.eval (.tmp s) = .bool b := (hA.tmps s (zala hn)).trans (zpla (m := .s) (hsv.1 nofun) nofun hsv.2)
     refine wp_cond hv ?_
     cases b with
     | true => exact ihx hL.1 hP hG (by rw [zyva hst]; exact hS) hA h
     | false => exact ihy hL.2 hP hG (by rw [zyva hst]; exact hS) hA h
    ·cases h
  ·cases h
 | block id c ih =>
  intro R K res Q F w st V fp a hL hP hG hS hA h
  simp only [evC] at h
  refine wp_block (ih (K := fun e st => match e with
   | .exit j => match Nat.beq j id with
    | true => K .normal st
    | false => K (.exit j) st
   | e => K e st) hL (Q := Exit.inBlock id Q) hP ⟨fun ex F w st V fp a hx hS hA h => ?_, fun p ch F w st V fp a hS hA hp h => hG.pan p ch _ _ _ _ _ _ hS hA hp h⟩ hS hA h)
  cases ex with
  | normal => exact hG.ex .normal _ _ _ _ _ _ rfl hS hA h
  | exit i =>
   simp only [toX, Exit.inBlock]
   dsimp only at h
   split at h
   ·rename_i hb
    rw [if_pos (Nat.eq_of_beq_eq_true hb)]
    exact hG.ex .normal _ _ _ _ _ _ rfl hS hA h
   ·rename_i hb
    rw [if_neg (fun hc => by subst hc; rw [Nat.beq_refl] at hb; cases hb)]
    exact hG.ex (.exit i) _ _ _ _ _ _ rfl hS hA h
  | ret => exact hG.ex .ret _ _ _ _ _ _ rfl hS hA h
  | pan p => cases hx
 | loop c ih =>
  intro R K res Q F w st V fp a hL hP hG hS hA h
  simp only [evC] at h
  split at h
  ·rename_i i hi
   obtain ⟨hd, out, n, hr⟩ := hL.1 i hi R st K res h
   refine wp_loop_rounds n ?_
   clear h
   obtain ⟨F0, st0, fp0, hr0, hS0⟩ := zEfa hS hr
   clear hr hS
   revert hr0 hS0
   induction n generalizing F0 w st0 V fp0 a with
   | zero => intro hr; cases hr
   | succ n ihn =>
    intro hr hS
    simp only [zvoa] at hr
    rw [rounds_succ]
    refine ih hL.2 ?_ ⟨fun ex F w st V fp a hx hS hA h => ?_, fun p ch F w st V fp a hS hA hp h => ?_⟩ hS hA hr
    ·exact hP
    ·cases ex with
     | normal =>
      obtain ⟨F', st', fp', h1, h2⟩ := zEfa hS h
      exact ihn hA _ _ _ h1 h2
     | exit i =>
      obtain ⟨F', st', fp', h1, h2⟩ := zEfa hS h
      exact hG.ex (.exit i) _ _ _ _ _ _ rfl h2 hA h1
     | ret =>
      obtain ⟨F', st', fp', h1, h2⟩ := zEfa hS h
      exact hG.ex .ret _ _ _ _ _ _ rfl h2 hA h1
     | pan p => cases hx
    ·obtain ⟨F', st', fp', h1, h2⟩ := zEfa hS h
     obtain ⟨v, q1, u, q2, q3, q4, q5⟩ := hp
     exact hG.pan p ch _ _ _ _ _ _ h2 hA ⟨v, q1, u, q2, q3, q4, zpqa q3 q5⟩ h1
  ·cases h
 | exit id => intro R K res Q F w st V fp a hL hP hG hS hA h; exact wp_exit (hG.ex (.exit id) _ _ _ _ _ _ rfl hS hA h)
 | ret => intro R K res Q F w st V fp a hL hP hG hS hA h; exact wp_ret (hG.ex .ret _ _ _ _ _ _ rfl hS hA h)
 | scope c ih =>
  intro R K res Q F w st V fp a hL hP hG hS hA h
  refine wp_scope_straight (ih hL ?_ ⟨fun ex F w st V fp a hx hS hA h => ?_, fun p ch F w st V fp a hS hA hp h => ?_⟩ hS hA h)
  ·exact hP
  ·cases ex <;> first | (cases hx; done) | exact hG.ex _ _ _ _ _ _ _ rfl hS hA h
  ·exact hG.pan p ch _ _ _ _ _ _ hS hA hp h
 | _ => intro R K res Q F w st V fp a hL hP hG hS hA h; cases h
end
end Go.Trm
