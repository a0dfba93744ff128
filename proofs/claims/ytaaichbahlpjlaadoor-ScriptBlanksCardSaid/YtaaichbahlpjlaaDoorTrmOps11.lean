import Derived.Test.YtaaichbahlpjlaaDoorTrmOps5
import Derived.Laws.BytesString
import Derived.Laws.IdiomStrings
import Derived.Laws.Tables
import Derived.Laws.NewFold
set_option linter.unusedVariables false
set_option linter.unusedSimpArgs false
namespace Go.Trm
theorem zexa {t : Ty} {m : Md} {p : List PE} (h : rootB t p = true) (ho : ownP t m p) : m ≠ .j := by
 rintro rfl
 unfold rootB at h
 split at h
 ·simp [ownP] at ho
 ·simp [ownP] at ho
 ·cases h
theorem zZqa {t : Ty} {p q : List PE} (h : rootB t p = true) : rootB t (p ++ q) = true := by
 unfold rootB at h
 split at h
 ·rfl
 ·rfl
 ·cases h
section
variable {P : Program} {env : Env} {e : Entry} {F : Blks} {w : World} {st : St} {V : Nat → Value} {fp : Nat → Blks} {fl : Blks} {a : Act} {o : Oper} {R : Type} {K : Unit → St → Option R} {res : R} {C : Cx R} {gh : Nat → Value} {next : Act → World → Prop} {Q : Exit → Act → World → Prop}
theorem zPxa {T : TypeId} {t : Ty} (hE : EnvTy P env) (h : env.is T t = true) : wt P t T = true := Env.is_ok hE h
theorem zKta {r : Nat} {p : List PE} {w' : World} {st2 : St} {fp2 : Nat → Blks} (hS2 : SR e F w' st2 V fp2 none') (hA : AR env gh a V)
  (h : (match env.fs r, p with
   | true, [.der] => .get r fun w => match w with
    | .v (.ptr T' t') (.o m') (some y') => match m'.noJ with
     | true => zOfa (some (r, [])) (fin env o .un)
     | false => .fail
    | _ => .fail
   | _, _ => fin env o .un : RM Unit).run C st2 K = some res) :
  ∃ F' st' V' fp', K () st' = some res ∧ SR e F' w' st' V' fp' (fun _ => False) ∧ AR env gh (a.put o.dst undef) V' := by
 split at h
 ·simp only [RM.run] at h
  split at h
  ·rename_i T' t' m' y' hst
   split at h
   ·have hsv := hS2.sv r
    rw [hst] at hsv
    have hd : DataAt F w' st2 V (V r) (.ptr T' t') (.o m') (some y') (some (r, [])) :=
     ⟨nofun, _, _, _, hst, some y', by simp only [getP], by simp [ownP], by simp [inP], cv (V r), none, by simp [rs], by
      have h1 : V r = valOf (.ptr T' t') (cv (V r)) := hsv.1 nofun
      have h2 := PartOf.all (c' := cv (V r)) (.ptr T' t') (some y')
      rwa [← h1] at h2⟩
    obtain ⟨st1, fp1, F1, h2, hS1, hF1, _, _⟩ := znha hS2 hd nofun h
    obtain ⟨st', V', fp', k1, k2, k3⟩ := zNha (v := undef) (fq := none') hS1 hA rfl h2 trivial (fun _ hb => hb)
    exact ⟨F1, st', V', fp', k1, k2, k3⟩
   ·simp [RM.run] at h
  ·simp [RM.run] at h
 ·obtain ⟨st', V', fp', k1, k2, k3⟩ := zNha (v := undef) (fq := none') hS2 hA rfl h trivial (fun _ hb => hb)
  exact ⟨F, st', V', fp', k1, k2, k3⟩
theorem zBva {T : TypeId} {ad x : Operand} (hE : EnvTy P env) (ho : o.op = .store T ad x) (hS : SR e F w st V fp none') (hA : AR env gh a V) (hN : Nxt env gh e K res next) (h : (evOp env o).run C st K = some res) : o.wp P a w next Q := by
 simp only [evOp, ho, rdT] at h
 obtain ⟨t, m, y, src, h1, hd, _⟩ := zWca hS hA h
 obtain ⟨st1, fp1, fq, h2, hS1, hv, hm, hrep, hfl, _⟩ := zjga hS hd h1
 have h1' : t.agg = false → one (a.eval x) := fun ha => by
  have := zSha hrep hm ha
  have hv' : a.eval x = valOf t (cv (a.eval x)) := hv
  rw [hv']
  simp only [valOf, ha, Bool.false_eq_true, if_false]
  exact this
 have hsz := znsa hv h1'
 split at h2
 ·rename_i hT
  simp only [Bool.and_eq_true] at hT
  rcases zrpa hS1 hA h2 with ⟨r, p, h3, hal⟩ | ⟨t', y', b, k, h3, _⟩
  ·obtain ⟨m, fq, F, fl1, h3, hS1, hrep, hfq, hnJ, _⟩ := zfua hS1 hrep (fun b hb => .inr hb) hT.2 h3
   simp only [setAt, RM.run] at h3
   split at h3
   ·rename_i t0 m0 x0 hr
    split at h3
    ·rename_i u mu y0 hg
     split at h3
     ·rename_i y' hc
      split at h3
      ·rename_i m' x' hset
       simp only [RM.run] at h3
       obtain ⟨eu, hy⟩ := zhba hc
       subst eu
       simp only at hy
       subst hy
       obtain ⟨b, k, fold, e1, e2, e3, e4, P', e5, e6⟩ := zxka hS1 hal hr hg
       have hrb := (hal t0 m0 x0 hr).1
       have hl : ∀ c ∈ (a.eval x).cells.toList, c.oneCell' = true := by
        intro c hc
        obtain ⟨j, hj, rfl⟩ := List.getElem_of_mem hc
        have := zFsa hrep hnJ j (by simpa [hsz] using hj)
        simpa [cv, Array.getD_eq_getD_getElem?, show j < (a.eval x).cells.size by simpa using hj] using this
       obtain ⟨c1, c2, c3⟩ := zLta (v := a.eval x) e6 hsz
       have hrun : (execOp a.eval o).run P w = .ok .skip (w.setCells b k (a.eval x).cells.toList) := by
        simp only [execOp, ho, e1, Instr.storeAt, Instr.sureAddr, Sem.run_bind, Sem.run_pure, Result.andThen_ok, pure_bind, zjqa (Env.is_ok hE hT.1) e6 hsz hl]
       have hb := (P'.lies b k rfl).1
       have hrep' : rep F (w.setCells b k (a.eval x).cells.toList) t m y (rowW (w.setCells b k (a.eval x).cells.toList) b k) fq := by
        refine zjaa (fun j hj => (c3 j hj).symm) (ziaa (fun _ hb => hb) (fun b' hb' => c1.1 b' ?_) (fun b' hb' => c1.1 b' ?_) hrep)
        ·rintro rfl; exact hS1.notF _ _ hb hb'
        ·rintro rfl; exact hS1.flD _ _ hb (hfq _ hb')
       have hS2 := hS1.place hr (zexa hrb e3) P' e4 e3 e2 hset (fun _ hb => hb) c2 (zpka _ _ _ _) c1 hrep' (fun b hb => .inr (hfq b hb)) (fl' := none') (fun _ hb => hb.elim) (fun b hb => .inl hb)
       obtain ⟨F', st', V', fp', k1, k2, k3⟩ := zKta hS2 hA h3
       exact zhsa hrun (hN _ _ _ _ _ _ k2 k3 k1)
      ·simp [RM.run] at h3
     ·simp [RM.run] at h3
    ·simp [RM.run] at h3
   ·simp [RM.run] at h3
  ·simp [RM.run] at h3
 ·simp [RM.run] at h2
theorem al_lz {val : Value} {r : Nat} {p : List PE} {t0 : Ty} {m0 : Md} {x0 : t0.I} {T : TypeId} {t : Ty} {m : Md} {y : t.I} (hS : SR e F w st V fp fl) (hsv : LzOk w st V r p val) (hr0 : st r = .v t0 m0 x0) (hg : getP t0 m0 x0 p = some ⟨.ptr T t, .o m, some y⟩) (hrb : rootB t0 (p ++ [.der]) = true) :
  AlOk w st V r (p ++ [.der]) val := by
 intro t1 m1 x1 h2
 rw [hr0] at h2
 cases h2
 obtain ⟨a1, a2, u1, c1, ad, a3, a4⟩ := hsv t0 m0 x0 hr0
 have hrr := hS.sv r
 rw [hr0] at hrr
 obtain ⟨c2, ad2, fp2, b1, b2, b3⟩ := zIia (ad := none) hrr.2 hg a2 nofun
 rw [a3] at b1
 simp only [Option.some.injEq, Prod.mk.injEq] at b1
 obtain ⟨rfl, rfl, rfl⟩ := b1
 simp only [rep] at b2
 obtain ⟨A, e1, ad', rfl, hsp, e2, e3, f, e4, e5⟩ := b2
 obtain ⟨b, k, sp⟩ := ad'
 simp only at hsp
 subst hsp
 refine ⟨hrb, zqla hg a1 (by simp [ownP]), zxoa hg a2 (by simp [inP]), t, rowW w b k, b, k, ?_, ?_⟩
 ·rw [zKra a3]
  simp only [rs, e1]
 ·rw [a4]
  simp only [valOf, Ty.agg, Bool.false_eq_true, if_false]
  exact e1
theorem zvwa {val : Value} {r : Nat} {p : List PE} {t0 : Ty} {m0 : Md} {x0 : t0.I} (h : AlOk w st V r p val) (hr0 : st r = .v t0 m0 x0) : ∃ b k, val = .pointer (some ⟨b, k, none⟩) := by
 obtain ⟨_, _, _, _, _, b, k, _, h⟩ := h t0 m0 x0 hr0
 exact ⟨b, k, h⟩
theorem zsoa {x : Operand} (ho : o.op = .nilCheck x) (hS : SR e F w st V fp none') (hA : AR env gh a V) (hN : Nxt env gh e K res next) (h : (evOp env o).run C st K = some res) : wpp P o a w next := by
 have hrun : ∀ A, a.eval x = .pointer (some A) → ∀ w, (execOp a.eval o).run P w = .ok (.value (a.eval x)) w := by
  intro A hx
  simp [execOp, ho, hx]
 simp only [evOp, ho] at h
 obtain ⟨sv, h1, hx⟩ := zSba h
 rcases hx with ⟨s, rfl, hs, rfl⟩ | ⟨c, rfl, rfl⟩ | ⟨f, rfl, rfl⟩
 ·have hev : a.eval (.tmp s) = V (env.b + s) := hA.tmps s hs
  have hsv := hS.sv (env.b + s)
  split at h1
  ·rename_i T t y hst
   rw [hst] at hsv
   cases y with
   | none => simp [RM.run] at h1
   | some y =>
    have hv : V (env.b + s) = valOf (.ptr T t) (cv (V (env.b + s))) := hsv.1 nofun
    have hr := hsv.2
    simp only [rep] at hr
    obtain ⟨A, e1, ad, rfl, _⟩ := hr
    have : V (env.b + s) = .pointer (some ad) := by
     rw [hv]
     simp only [valOf, Ty.agg, Bool.false_eq_true, if_false]
     exact e1
    simp only [RM.run, Option.isSome_some, cond_true] at h1
    exact endVp hS hA hN h1 (fun _ => by rw [hev]; exact hv) (by rw [hev]; exact rep_s (fp' := none') hsv.2) (fun _ hb => hb) (hrun ad (by rw [hev]; exact this))
  ·rename_i T t m y hst
   simp only [self] at h1
   have hal := zCta hS hst
   obtain ⟨b, k, hb⟩ := zvwa hal hst
   exact endOp hS hA hN rfl h1 (fq := none') (by rw [hev]; exact hal) (fun _ hb => hb) (hrun _ (by rw [hev]; exact hb))
  ·rename_i r p hst
   rw [hst] at hsv
   simp only [memP, RM.run] at h1
   split at h1
   ·rename_i t0 m0 x0 hr
    split at h1
    ·obtain ⟨b, k, hb⟩ := zvwa hsv hr
     exact endOp hS hA hN rfl h1 (fq := none') (by rw [hev]; exact hsv) (fun _ hb => hb) (hrun _ (by rw [hev]; exact hb))
    ·simp [RM.run] at h1
   ·simp [RM.run] at h1
  ·rename_i r p hst
   rw [hst] at hsv
   simp only [atP, RM.run] at h1
   split at h1
   ·rename_i t0 m0 x0 hr
    split at h1
    ·rename_i u mu y hg
     split at h1
     ·simp only [memP, RM.run, hr] at h1
      split at h1
      ·rename_i hrb
       have hal := al_lz hS hsv hr hg hrb
       obtain ⟨b, k, hb⟩ := zvwa hal hr
       exact endOp hS hA hN rfl h1 (fq := none') (by rw [hev]; exact hal) (fun _ hb => hb) (hrun _ (by rw [hev]; exact hb))
      ·simp [RM.run] at h1
     ·simp [RM.run] at h1
    ·simp [RM.run] at h1
   ·simp [RM.run] at h1
  ·simp [RM.run] at h1
 ·cases hc : cst env 0 c with
  | v t m y =>
   rw [hc] at h1
   unfold cst at hc
   (repeat' split at hc) <;> cases hc <;> simp [RM.run] at h1
  | al r p => unfold cst at hc; (repeat' split at hc) <;> cases hc
  | lz r p => unfold cst at hc; (repeat' split at hc) <;> cases hc
  | _ => rw [hc] at h1; simp [RM.run] at h1
 ·simp [RM.run] at h1
theorem zpna {S : TypeId} {x : Operand} {i : Nat} (hE : EnvTy P env) (ho : o.op = .fieldAddr S x i) (hS : SR e F w st V fp none') (hA : AR env gh a V) (hN : Nxt env gh e K res next) (h : (evOp env o).run C st K = some res) : wpp P o a w next := by
 have hrun : ∀ {t : Ty} {m : Md} {y : t.I} {u : Ty} {mu : Md} {z : u.I} {b k : Nat}, env.is S t = true → getP t m y [.fld i] = some ⟨u, mu, z⟩ → Nat.beq u.size 0 = false → a.eval x = .pointer (some ⟨b, k, none⟩) →
   ∃ k', fldT t i = some (u, k') ∧ k' + u.size ≤ t.size ∧ ∀ w, (execOp a.eval o).run P w = .ok (.value (.pointer (some ⟨b, k + k', none⟩))) w := by
  intro t m y u mu z b k hT hg hz hx
  obtain ⟨k', f1, f2⟩ := zmta hg
  obtain ⟨fs, f, g1, g2, g3, g4⟩ := zIwa (Env.is_ok hE hT) f1
  refine ⟨k', f1, f2, ?_⟩
  have hne : u.size ≠ 0 := fun hc => by rw [hc] at hz; cases hz
  intro w
  simp only [execOp, ho, hx, Instr.fieldAt, Sem.run_bind, run_underlying g1, Result.andThen_ok, g2, Instr.sureAddr, Sem.run_pure, fieldPlace, zHca g4, hne, if_false, g3, zJda]
 simp only [evOp, ho] at h
 rcases zrpa hS hA h with ⟨r, p, h1, ha⟩ | ⟨t, y, b, k, h1, e1, e2, e3, e4⟩
 ·simp only [atP, RM.run] at h1
  split at h1
  ·rename_i t0 m0 x0 hr
   split at h1
   ·rename_i t m y hg
    split at h1
    ·rename_i u mu z hT hf
     split at h1
     ·rename_i hz
      obtain ⟨a1, a2, a3, u1, c1, b, k, a4, a5⟩ := ha t0 m0 x0 hr
      obtain ⟨b', k', fold, e1, e2, e3, e4, P', e5, e6⟩ := zxka hS ha hr hg
      obtain ⟨kk, f1, f2, hr2⟩ := hrun hT hf hz e1
      refine endOp (fq := none') hS hA hN rfl h1 ?_ (fun _ hb => hb) hr2
      intro t1 m1 x1 h2
      rw [hr] at h2
      cases h2
      have hrf := zQta (w := w) (c := rowW w b' k') (ad := some (b', k')) f1
      refine ⟨zZqa a1, zqla hg e3 (zWma (q := [.fld i]) rfl hrf), zxoa hg e4 (zVla (q := [.fld i]) rfl hrf), u, fun j => rowW w b' k' (kk + j), b', k' + kk, (zKra e2).trans hrf, rfl⟩
     ·simp [RM.run] at h1
    ·simp [RM.run] at h1
   ·simp [RM.run] at h1
  ·simp [RM.run] at h1
 ·split at h1
  ·rename_i u z hT hf
   split at h1
   ·rename_i hz
    obtain ⟨kk, f1, f2, hr2⟩ := hrun hT hf hz e1
    refine endVp (fq := none') hS hA hN h1 (fun _ => ?_) ?_ (fun _ hb => hb) hr2
    ·simp only [isV, valOf, Ty.agg, Bool.false_eq_true, if_false]; rfl
    ·simp only [rep]
     refine ⟨some ⟨b, k + kk, none⟩, rfl, ⟨b, k + kk, none⟩, rfl, rfl, e4, ?_, ?_⟩
     ·obtain ⟨cs, el, fz, q1, q2, q3⟩ := e2
      exact ⟨cs, el, fz, q1, by show k + kk + u.size ≤ cs.size; omega, q3⟩
     ·have hrf := zQta (w := w) (c := rowW w b k) (ad := none) f1
      obtain ⟨c', ad', fp', k1, k2, k3⟩ := zIia (ad := none) e3 hf (zVla (q := [.fld i]) rfl hrf) nofun
      rw [hrf] at k1
      simp only [Option.some.injEq, Prod.mk.injEq, true_and] at k1
      obtain ⟨rfl, _⟩ := k1
      rw [zDca] at k2
      exact rep_s k2
   ·simp [RM.run] at h1
  ·simp [RM.run] at h1
end
end Go.Trm
namespace Go.Trm
theorem zTwa (l : List UInt8) (i : Nat) (h : i < l.length) : (⟨l.toArray⟩ : ByteArray)[i]? = some (l.getD i 0) := by
 have hsz : i < (⟨l.toArray⟩ : ByteArray).size := by show i < l.toArray.size; simpa using h
 rw [getElem?_pos (⟨l.toArray⟩ : ByteArray) i hsz]
 congr 1
 show (l.toArray)[i] = _
 simp [List.getD, h]
theorem zFwa {P : Program} {t : Ty} {T : TypeId} (h : wt P t T = true) : ∃ d, P.underlying T = some d := by
 cases hd : P.underlying T with
 | some d => exact ⟨d, rfl⟩
 | none => cases t <;> simp [wt, hd] at h
section
variable {P : Program} {env : Env} {e : Entry} {F : Blks} {w : World} {st : St} {V : Nat → Value} {fp : Nat → Blks} {fl : Blks} {a : Act} {o : Oper} {R : Type} {K : Unit → St → Option R} {res : R} {C : Cx R} {gh : Nat → Value} {next : Act → World → Prop} {Q : Exit → Act → World → Prop}
theorem zSsa {T : TypeId} {x : Operand} {i : Nat} (hE : EnvTy P env) (ho : o.op = .field T x i) (hS : SR e F w st V fp none') (hA : AR env gh a V) (hN : Nxt env gh e K res next) (h : (evOp env o).run C st K = some res) : wpp P o a w next := by
 simp only [evOp, ho] at h
 obtain ⟨t, m, y, src, h1, hd, _⟩ := zMua hS hA h
 obtain ⟨hv, hm, fq, hrep, _⟩ := hd.rep hS
 have key : ∀ {u : Ty} {mu : Md} {z : u.I}, env.is T t = true → getP t m y [.fld i] = some ⟨u, mu, z⟩ → ∃ kk, fldT t i = some (u, kk) ∧ kk + u.size ≤ t.size ∧ ∀ w, (execOp a.eval o).run P w = .ok (.value (valOf u (fun j => cv (a.eval x) (kk + j)))) w := by
  intro u mu z hT hg
  obtain ⟨kk, f1, f2⟩ := zmta hg
  obtain ⟨fs, f, g1, g2, g3, g4⟩ := zIwa (Env.is_ok hE hT) f1
  have ha : t.agg = true := by cases t <;> first | rfl | (simp [fldT] at f1)
  obtain ⟨cs, c1, c2, c3⟩ := zDra hv ha
  refine ⟨kk, f1, f2, ?_⟩
  intro w
  have hp := zGoa (P := P) (w := w) (cs := cs) (off := f.offset) g4 (by rw [c2, g3]; exact f2)
  rw [g3] at hp
  simp only [c3] at hp
  have hx : (asAgg (a.eval x)).run P w = .ok cs w := by rw [c1]; rfl
  simp only [execOp, ho, Instr.field, Sem.run_bind, run_underlying g1, Result.andThen_ok, g2, hx, g3, hp, Sem.run_pure]
 split at h1
 ·rename_i u z hT hg
  obtain ⟨kk, f1, f2, hr⟩ := key hT hg
  have hrf := zQta (w := w) (c := cv (a.eval x)) (ad := none) f1
  obtain ⟨c', ad', fp', k1, k2, k3⟩ := zIia (ad := none) hrep hg (zVla (q := [.fld i]) rfl hrf) nofun
  rw [hrf] at k1
  simp only [Option.some.injEq, Prod.mk.injEq, true_and] at k1
  obtain ⟨rfl, _⟩ := k1
  have h1' : u.agg = false → one (cv (a.eval x) (kk + 0)) := fun ha => zSha k2 nofun ha
  exact endVp (fq := none') hS hA hN h1 (fun _ => zdga h1') (rep_s (zjaa (fun j hj => (ziga h1' j hj).symm) k2)) (fun _ hb => hb) hr
 ·simp [RM.run] at h1
 ·rename_i u mu z hm1 hm2 hT hg
  split at h1
  ·rename_i r p
   obtain ⟨kk, f1, f2, hr⟩ := key hT hg
   refine endOp (fq := none') hS hA hN rfl h1 ?_ (fun _ hb => hb) hr
   obtain ⟨_, t0, m0, x0, d1, d2, d3, d4, c', ad, d5, d6⟩ := hd
   intro t1 m1 x1 h2
   rw [d1] at h2
   cases h2
   have hrf := zQta (w := w) (c := c') (ad := ad) f1
   refine ⟨zqla d2 d3 (zWma (q := [.fld i]) rfl hrf), zxoa d2 d4 (zVla (q := [.fld i]) rfl hrf), u, fun j => c' (kk + j), ad.map fun q => (q.1, q.2 + kk), (zKra d5).trans hrf, ?_⟩
   refine zzga fun j hj => ?_
   have ha : t.agg = true := by cases t <;> first | rfl | (simp [fldT] at f1)
   rw [d6]
   exact ziga (fun hc => by rw [ha] at hc; cases hc) _ (by omega)
  ·simp [RM.run] at h1
 ·simp [RM.run] at h1
theorem zDpa {i : Int} {n : Nat} (h : inB i n = true) : 0 ≤ i ∧ i < n := by
 simpa [inB] using h
theorem zora {l h : Int} {n : Nat} (h1 : inR l h n = true) : 0 ≤ l ∧ l ≤ h ∧ h ≤ n := by
 simpa [inR] using h1
theorem zRsa {T : TypeId} {x i : Operand} (hE : EnvTy P env) (ho : o.op = .index T x i) (hS : SR e F w st V fp none') (hA : AR env gh a V) (hN : Nxt env gh e K res next) (h : (evOp env o).run C st K = some res) : wpp P o a w next := by
 simp only [evOp, ho] at h
 obtain ⟨kd, n, h1, e1, r1⟩ := zoea hS hA h
 obtain ⟨t, m, y, src, h2, hd, _⟩ := zWca hS hA h1
 obtain ⟨hv, hm, fq, hrep, _⟩ := hd.rep hS
 cases t with
 | str =>
  dsimp only at h2
  split at h2
  ·rename_i hT
   simp only [RM.run] at h2
   cases hb : inB n (List.length y) with
   | false => rw [hb] at h2; cases h2
   | true =>
    rw [hb] at h2
    have hb' := zDpa hb
    have e2 := (zDga hv hm hrep).1
    have hlt : n.toNat < List.length (y : List UInt8) := by omega
    refine endVp (v := .int .u8 (bt y n)) hS hA hN h2 (fun _ => rfl) (zifa ?_) (fun _ hb => hb) ?_
    ·have : ((List.getD y n.toNat (0 : UInt8)).toNat) < 256 := UInt8.toNat_lt _
     unfold bt
     constructor
     ·show IntKind.u8.min ≤ _
      have : IntKind.u8.min = 0 := by decide
      omega
     ·show _ ≤ IntKind.u8.max
      have : IntKind.u8.max = 255 := by decide
      omega
    ·have hget := zTwa y n.toNat hlt
     intro w
     simp only [execOp, ho, e1, e2, Instr.index, asIntOf, Sem.run_bind, Sem.run_pure, Result.andThen_ok, run_underlying (zipa (Env.is_ok hE hT)), hb'.1, if_true, hget, bt]
  ·simp [RM.run] at h2
 | arr n0 u =>
  cases m with
  | s =>
  dsimp only at h2
  split at h2
  ·rename_i hT
   simp only [RM.run] at h2
   cases hb : inB n n0 with
   | false => rw [hb] at h2; cases h2
   | true =>
    rw [hb] at h2
    have hb' := zDpa hb
    obtain ⟨el, g1, g2⟩ := zFta (Env.is_ok hE hT)
    obtain ⟨cs, c1, c2, c3⟩ := zDra hv rfl
    simp only [rep] at hrep
    obtain ⟨hn, fs, _, _, r⟩ := hrep
    have hlt : n.toNat < n0 := by omega
    have hri := r n.toNat hlt
    have h1' : u.agg = false → one (cv (a.eval x) (n.toNat * u.size + 0)) := fun ha => zSha hri nofun ha
    have hle : n.toNat * u.size + u.size ≤ cs.size := by
     rw [c2]
     simp only [Ty.size]
     calc n.toNat * u.size + u.size = (n.toNat + 1) * u.size := by rw [Nat.add_mul, Nat.one_mul]
      _ ≤ n0 * u.size := Nat.mul_le_mul_right _ hlt
    have hp := fun w => zGoa (P := P) (w := w) (cs := cs) g2 hle
    simp only [c3] at hp
    refine endVp (fq := none') hS hA hN h2 (fun _ => zdga h1') (rep_s (zjaa (fun j hj => (ziga h1' j hj).symm) hri)) (fun _ hb => hb) ?_
    rw [c1] at hp
    intro w
    simp only [execOp, ho, e1, c1, Instr.index, asIntOf, Sem.run_bind, Sem.run_pure, Result.andThen_ok, run_underlying g1, hb', and_self, if_true, zHca g2, hp]
  ·simp [RM.run] at h2
  | _ => simp [RM.run] at h2
 | _ => simp [RM.run] at h2
theorem zpra {T : TypeId} {x i : Operand} {kd : IntKind} {n : Int} {r : Nat} {p : List PE} (hE : EnvTy P env) (ho : o.op = .indexAddr T x i) (hS : SR e F w st V fp none') (hA : AR env gh a V) (hN : Nxt env gh e K res next) (e1 : a.eval i = .int kd n) (hal : AlOk w st V r p (a.eval x)) (h2 : (zpua env o T n r p).run C st K = some res) : wpp P o a w next := by
 unfold zpua at h2
 simp only [atP, RM.run] at h2
 split at h2
 ·rename_i t0 m0 x0 hr
  split at h2
  ·rename_i t mu y hg
   split at h2
   ·rename_i n0 u y
    split at h2
    ·rename_i hT
     simp only [Bool.and_eq_true, Bool.not_eq_true'] at hT
     simp only [RM.run] at h2
     cases hb : inB n n0 with
     | false => rw [hb] at h2; cases h2
     | true =>
      rw [hb] at h2
      have hb' := zDpa hb
      obtain ⟨b', k', fold, f1, f2, f3, f4, P', f5, f6⟩ := zxka hS hal hr hg
      obtain ⟨el, g1, g2⟩ := zFta (Env.is_ok hE hT.1)
      have hlen : List.length (y : List u.I) = n0 := by
       cases mu with
       | j => cases hT.2
       | _ => simp only [rep] at f5; exact f5.1
      refine endOp (fq := none') (v := .pointer (some ⟨b', k' + n.toNat * u.size, none⟩)) hS hA hN rfl h2 ?_ (fun _ hb => hb) ?_
      ·intro t1 m1 x1 h3
       rw [hr] at h3
       cases h3
       refine ⟨zZqa (hal _ _ _ hr).1, zqla hg f3 ?_, zxoa hg f4 ?_, u, fun j => rowW w b' k' (n.toNat * u.size + j), b', k' + n.toNat * u.size, ?_, rfl⟩
       ·simp only [ownP]; exact ⟨hT.2, trivial⟩
       ·simp only [inP]; exact ⟨by rw [hlen]; omega, trivial⟩
       ·rw [zKra f2]
        simp only [rs, Option.map_some]
      ·intro w
       simp only [execOp, ho, e1, f1, Instr.indexAt, asIntOf, Instr.sureAddr, Sem.run_bind, Sem.run_pure, Result.andThen_ok, run_underlying g1, hb', and_self, if_true, zHca g2, zJda]
    ·simp [RM.run] at h2
   ·simp [RM.run] at h2
  ·simp [RM.run] at h2
 ·simp [RM.run] at h2
theorem zona {T : TypeId} {x i : Operand} (hE : EnvTy P env) (ho : o.op = .indexAddr T x i) (hS : SR e F w st V fp none') (hA : AR env gh a V) (hN : Nxt env gh e K res next) (h : (evOp env o).run C st K = some res) : wpp P o a w next := by
 simp only [evOp, ho] at h
 obtain ⟨kd, n, h1, e1, r1⟩ := zoea hS hA h
 have hgen : ∀ {u : Ty} {et : TypeId} {A : Addr} {len cap : Nat}, env.is T (.sl et u) = true → a.eval x = .slice (some A) len cap → 0 ≤ n → n < len → ∀ w, (execOp a.eval o).run P w = .ok (.value (.pointer (some (A.add (n.toNat * u.size))))) w := by
  intro u et A len cap hT hx h0 hn
  obtain ⟨g1, g2⟩ := wt_sl (Env.is_ok hE hT)
  intro w
  simp only [execOp, ho, e1, hx, Instr.indexAt, asIntOf, Sem.run_bind, Sem.run_pure, Result.andThen_ok, run_underlying g1, h0, hn, and_self, if_true, zHca g2]
 have hsl : ∀ {t : Ty} {m : Md} {y : t.I} {src : Src}, DataX F w st V (a.eval x) t m y src → (idxA env o T n t m y src).run C st K = some res → wpp P o a w next := by
  intro t m y src hd h2
  obtain ⟨hv, hm, fq, hrep, _⟩ := hd.rep hS
  unfold idxA at h2
  split at h2
  ·rename_i et u y
   split at h2
   ·rename_i hT
    simp only [Bool.and_eq_true, Bool.not_eq_true'] at hT
    simp only [RM.run] at h2
    cases hb : inB n (List.length y) with
    | false => rw [hb] at h2; cases h2
    | true =>
     rw [hb] at h2
     have hb' := zDpa hb
     have hlt : n.toNat < List.length (y : List u.I) := by omega
     have hval : a.eval x = cv (a.eval x) 0 := by
      have h2 : a.eval x = valOf (.sl et u) (cv (a.eval x)) := hv
      simpa only [valOf, Ty.agg, Bool.false_eq_true, if_false] using h2
     simp only [rep] at hrep
     obtain ⟨A, cap, q1, q2, q3, q4, q5⟩ := hrep
     cases A with
     | none => have := q4 rfl; omega
     | some A =>
      obtain ⟨hsp, q6, q7⟩ := q5 A rfl
      replace hsp := hsp (by omega)
      obtain ⟨b, k, sp⟩ := A
      simp only at hsp
      subst hsp
      have hus : u.size ≠ 0 := fun hc => by rw [hc] at hT; cases hT.2
      rcases q6 with q6 | ⟨q6, q8⟩
      ·rcases Nat.mul_eq_zero.1 q6 with q6 | q6
       ·omega
       ·exact absurd q6 hus
      ·have hr := hgen hT.1 (hval.trans q1) hb'.1 hb'.2
       rw [zJda] at hr
       refine endVp (fq := none') hS hA hN h2 (fun _ => ?_) ?_ (fun _ hb => hb) hr
       ·simp only [isV, valOf, Ty.agg, Bool.false_eq_true, if_false]; rfl
       ·simp only [rep]
        refine ⟨_, rfl, _, rfl, rfl, q6, ?_, ?_⟩
        ·obtain ⟨cs, el, fz, p1, p2, p3⟩ := q8
         refine ⟨cs, el, fz, p1, ?_, p3⟩
         have : (n.toNat + 1) * u.size ≤ List.length y * u.size := Nat.mul_le_mul_right _ hlt
         rw [Nat.add_mul, Nat.one_mul] at this
         show k + n.toNat * u.size + u.size ≤ cs.size
         simp only at p2
         omega
        ·exact q7 n.toNat hlt
   ·simp [RM.run] at h2
  ·rename_i et u m' y
   split at h2
   ·rename_i r p hT _
    simp only [RM.run] at h2
    cases hb : inB n (List.length y) with
    | false => rw [hb] at h2; cases h2
    | true =>
     rw [hb] at h2
     have hb' := zDpa hb
     have hlt : n.toNat < List.length (y : List u.I) := by omega
     obtain ⟨_, t0, m0, x0, d1, d2, d3, d4, c', ad, d5, d6⟩ := hd
     simp only [memP, RM.run, d1, cond_true] at h2
     split at h2
     ·rename_i hrb
      have hrr := hS.sv r
      rw [d1] at hrr
      obtain ⟨c2, ad2, fp2, b1, b2, b3⟩ := zIia (ad := none) hrr.2 d2 d4 nofun
      rw [d5] at b1
      simp only [Option.some.injEq, Prod.mk.injEq, true_and] at b1
      obtain ⟨rfl, rfl⟩ := b1
      simp only [rep] at b2
      obtain ⟨A, cap, q1, q2, q3, q4, q5⟩ := b2
      cases A with
      | none => have := q4 rfl; omega
      | some A =>
       obtain ⟨hsp, q6, q7, fs, q8, q9, q10⟩ := q5 A rfl
       replace hsp := hsp (by omega)
       obtain ⟨b, k, sp⟩ := A
       simp only at hsp
       subst hsp
       have hval : a.eval x = c' 0 := by
        rw [d6]
        simp only [valOf, Ty.agg, Bool.false_eq_true, if_false]
       have hr := hgen hT (hval.trans q1) hb'.1 hb'.2
       rw [zJda] at hr
       refine endOp (fq := none') hS hA hN rfl h2 ?_ (fun _ hb => hb) hr
       intro t1 m1 x1 h3
       rw [d1] at h3
       cases h3
       refine ⟨hrb, zqla d2 d3 (by simp [ownP]), zxoa d2 d4 (by simp only [inP]; exact ⟨hlt, trivial⟩), u, rowW w b (k + n.toNat * u.size), b, k + n.toNat * u.size, ?_, rfl⟩
       rw [zKra d5]
       simp only [rs, q1]
     ·simp [RM.run] at h2
   ·simp [RM.run] at h2
  ·simp [RM.run] at h2
 obtain ⟨sv, h2, hx⟩ := zSba h1
 have hder : ∀ sv, (zcpa sv (self env x) fun t m y src => idxA env o T n t m y src).run C st K = some res → ((∃ t, x = .tmp t ∧ t < env.n ∧ sv = st (env.b + t)) ∨ (∃ c, x = .const c ∧ sv = cst env T c) ∨ (∃ f, x = .func f ∧ sv = .fn f [] [])) → wpp P o a w next := by
  intro sv h2 hx
  have h3 : (rdX env T x fun t m y src => idxA env o T n t m y src).run C st K = some res := by
   unfold rdX rdO
   rcases hx with ⟨s, rfl, hs, rfl⟩ | ⟨c, rfl, rfl⟩ | ⟨f, rfl, rfl⟩
   ·have : Nat.blt s env.n = true := Nat.ble_eq_true_of_le hs
    simp only [this]
    exact h2
   ·exact h2
   ·exact h2
  obtain ⟨t, m, y, src, h4, hd, _⟩ := zMua hS hA h3
  exact hsl hd h4
 split at h2
 ·rename_i r p
  have hal : AlOk w st V r p (a.eval x) := by
   rcases hx with ⟨s, rfl, hs, h3⟩ | ⟨c, rfl, h3⟩ | ⟨f, rfl, h3⟩
   ·have hev : a.eval (.tmp s) = V (env.b + s) := hA.tmps s hs
    have hsv := hS.sv (env.b + s)
    rw [← h3] at hsv
    rw [hev]
    exact hsv
   ·unfold cst at h3; (repeat' split at h3) <;> cases h3
   ·cases h3
  exact zpra hE ho hS hA hN e1 hal h2
 ·rcases zrpa hS hA h2 with ⟨r, p, h3, hal⟩ | ⟨_, _, _, _, h3, _⟩
  ·exact zpra hE ho hS hA hN e1 hal h3
  ·simp [RM.run] at h3
 ·exact hder _ h2 hx
end
end Go.Trm
namespace Go.Trm
theorem zcna (y : List UInt8) : (⟨y.toArray⟩ : ByteArray).size = y.length := by show y.toArray.size = _; simp
theorem zFra (y : List UInt8) (l h : Int) : (⟨y.toArray⟩ : ByteArray).extract l.toNat h.toNat = ⟨(rng y l h).toArray⟩ := by
 apply ByteArray.ext
 rw [ByteArray.data_extract]
 apply Array.ext'
 simp [rng, List.drop_take]
section
variable {P : Program} {env : Env} {e : Entry} {F : Blks} {w : World} {st : St} {V : Nat → Value} {fp : Nat → Blks} {fl : Blks} {a : Act} {o : Oper} {R : Type} {K : Unit → St → Option R} {res : R} {C : Cx R} {gh : Nat → Value} {next : Act → World → Prop} {Q : Exit → Act → World → Prop}
theorem zoka (V : Nat → Value) (s : Nat) : updV V s (V s) = V := by
 funext i
 unfold updV
 split
 ·rename_i h; rw [h]
 ·rfl
theorem ztpa {x : Operand} {i : Nat} (ho : o.op = .extract x i) (hS : SR e F w st V fp none') (hA : AR env gh a V) (hN : Nxt env gh e K res next) (h : (evOp env o).run C st K = some res) : wpp P o a w next := by
 simp only [evOp, ho] at h
 obtain ⟨sv, h1, hx⟩ := zSba h
 split at h1
 ·rename_i l
  rcases hx with ⟨s, rfl, hs, h3⟩ | ⟨c, rfl, h3⟩ | ⟨f, rfl, h3⟩
  ·have hev : a.eval (.tmp s) = V (env.b + s) := hA.tmps s hs
   have hsv := hS.sv (env.b + s)
   rw [← h3] at hsv
   obtain ⟨vs, e1, e2, fs, e3, e4, e5⟩ := hsv
   have hrun : ∀ u, vs[i]? = some u → ∀ w, (execOp a.eval o).run P w = .ok (.value u) w := by
    intro u hu w
    simp only [execOp, ho, hev, e1, Instr.extract, List.getElem?_toArray, hu, Sem.run_bind, Sem.run_pure, Result.andThen_ok]
   split at h1
   ·rename_i t y hl
    obtain ⟨u, k1, k2, k3⟩ := e5 i _ _ _ hl
    exact endVp hS hA hN h1 (fun _ => k2 nofun) (rep_s (fp' := none') k3) (fun _ hb => hb) (hrun u k1)
   ·rename_i t m y hm hl
    obtain ⟨u, k1, k2, k3⟩ := e5 i _ _ _ hl
    simp only [self, setS, RM.run] at h1
    have hS1 := hS.drop (env.b + s)
    have hS2 := hS1.fillO (d := env.b + s) (v := V (env.b + s)) (sv := .tup (l.set i .un)) (fq := fun b => fp (env.b + s) b ∧ ¬ fs i b) (fl' := fs i) (fun _ => rfl) rfl
     ⟨vs, e1, by simpa using e2, fun k b => k ≠ i ∧ fs k b, ⟨fun k j hkj b hb hc => e3.disj k j hkj b hb.2 hc.2⟩, fun k b hb => ⟨e4 k b hb.2, fun hc => e3.disj k i hb.1 b hb.2 hc⟩, fun k t1 m1 x1 hk => by
      by_cases hki : k = i
      ·subst hki
       rw [List.getElem?_set] at hk
       simp only [if_true] at hk
       split at hk <;> cases hk
      ·rw [List.getElem?_set_ne (Ne.symm hki)] at hk
       obtain ⟨u1, q1, q2, q3⟩ := e5 k t1 m1 x1 hk
       exact ⟨u1, q1, q2, zFga (fun b hb => ⟨hki, hb⟩) q3⟩⟩
     (fun b hb => .inr hb.1) (fun b hb => ⟨.inr (e4 i b hb), fun hc => hc.2 hb⟩)
    rw [zoka] at hS2
    have hst : (st.put (env.b + s) SV.un).put (env.b + s) (.tup (l.set i .un)) = st.put (env.b + s) (.tup (l.set i .un)) := by
     funext j
     by_cases hj : j = env.b + s
     ·subst hj; rw [zoca, zoca]
     ·rw [zGba hj, zGba hj, zGba hj]
    rw [hst] at hS2
    exact endVp hS2 hA hN h1 k2 k3 (fun _ hb => hb) (hrun u k1)
   ·simp [RM.run] at h1
  ·unfold cst at h3; (repeat' split at h3) <;> cases h3
  ·cases h3
 ·simp [RM.run] at h1
theorem zkna {α : Type} {K : α → St → Option R} : ∀ {xs : List Operand} {k : List (Nat × List PE) → RM α} (_ : SR e F w st V fp fl) (_ : AR env gh a V) (_ : (zqqa env xs k).run C st K = some res),
  ∃ l : List (Nat × List PE), (k l).run C st K = some res ∧ l.length = xs.length ∧ ∀ (i : Nat) (q : Nat × List PE), l[i]? = some q → ∃ u, (xs.map a.eval)[i]? = some u ∧ CapOk F w st V q.1 q.2 u
 | [], k, hS, hA, h => ⟨[], h, rfl, fun i q hq => by simp at hq⟩
 | x :: xs, k, hS, hA, h => by
  simp only [zqqa] at h
  obtain ⟨sv, h, hx⟩ := zSba h
  have key : ∀ r p, CapOk F w st V r p (a.eval x) → (zqqa env xs fun l => k ((r, p) :: l)).run C st K = some res → ∃ l : List (Nat × List PE), (k l).run C st K = some res ∧ l.length = (x :: xs).length ∧ ∀ (i : Nat) (q : Nat × List PE), l[i]? = some q → ∃ u, ((x :: xs).map a.eval)[i]? = some u ∧ CapOk F w st V q.1 q.2 u := by
   intro r p ha h1
   obtain ⟨l, h2, h3, h4⟩ := zkna hS hA h1
   refine ⟨(r, p) :: l, h2, by simp [h3], fun i q hq => ?_⟩
   cases i with
   | zero => simp only [List.getElem?_cons_zero, Option.some.injEq] at hq; subst hq; exact ⟨_, rfl, ha⟩
   | succ i => simp only [List.getElem?_cons_succ] at hq; simpa using h4 i q hq
  split at h
  ·exact key _ [] (zqwa hS hA hx) h
  ·rcases zrpa hS hA h with ⟨r, p, h1, ha⟩ | ⟨t, y, b, k, h1, _⟩
   ·cases p with
    | nil => simp [RM.run] at h1
    | cons e p => exact key r (e :: p) ha h1
   ·simp [RM.run] at h1
theorem ztoa {f : FuncId} {first caps : Array Operand} (ho : o.op = .makeFunc (.func f) first caps) (hS : SR e F w st V fp none') (hA : AR env gh a V) (hN : Nxt env gh e K res next) (h : (evOp env o).run C st K = some res) : wpp P o a w next := by
 simp only [evOp, ho] at h
 obtain ⟨l, h1, h2, h3⟩ := zkna hS hA h
 obtain ⟨l', h1, h2', h3'⟩ := zkna hS hA h1
 refine endOp (fq := none') (v := .func (.func f) ((first.toList.map a.eval).toArray) ((caps.toList.map a.eval).toArray)) hS hA hN rfl h1 ⟨first.toList.map a.eval, caps.toList.map a.eval, rfl, ⟨by simpa using h2.symm, fun k q hq => h3 k q hq⟩, ⟨by simpa using h2'.symm, fun k q hq => h3' k q hq⟩⟩ (fun _ hb => hb) ?_
 intro w
 simp only [execOp, ho, Instr.makeFunc, Sem.run_bind, Sem.run_pure, Result.andThen_ok]
 have e1 : (List.map a.eval first.toList).toArray = Array.map a.eval first := by apply Array.ext'; simp
 have e2 : (List.map a.eval caps.toList).toArray = Array.map a.eval caps := by apply Array.ext'; simp
 rw [e1, e2]
theorem zYma {α : Type} {K : α → St → Option R} {x : Option Operand} {d : Int} {k : Int → RM α} (hS : SR e F w st V fp fl) (hA : AR env gh a V) (h : (bound env x d k).run C st K = some res) :
  ∃ n, (k n).run C st K = some res ∧ ((x = none ∧ n = d) ∨ ∃ o kd, x = some o ∧ a.eval o = .int kd n) := by
 unfold bound at h
 split at h
 ·exact ⟨d, h, .inl ⟨rfl, rfl⟩⟩
 ·obtain ⟨kd, n, h1, e1, r1⟩ := zoea hS hA h
  exact ⟨n, h1, .inr ⟨_, kd, rfl, e1⟩⟩
theorem zena {b : Bool} {len cap : Nat} {lo hi : Option Operand} {l h : Int} (hl : (lo = none ∧ l = 0) ∨ ∃ o kd, lo = some o ∧ a.eval o = .int kd l) (hh : (hi = none ∧ h = (len : Nat)) ∨ ∃ o kd, hi = some o ∧ a.eval o = .int kd h)
  (hr : 0 ≤ l ∧ l ≤ h ∧ h ≤ (len : Nat)) (hc : len ≤ cap) : (Instr.sliceBounds b len cap (lo.map a.eval) (hi.map a.eval) none).run P w = .ok (l.toNat, h.toNat, cap) w := by
 have h2 : 0 ≤ h := by omega
 have h3 : h ≤ (cap : Int) := by omega
 have h4 : l ≤ (h.toNat : Int) := by omega
 have h5 : 0 ≤ (len : Int) := by omega
 rcases hl with ⟨rfl, rfl⟩ | ⟨o1, k1, rfl, e1⟩ <;> rcases hh with ⟨rfl, rfl⟩ | ⟨o2, k2, rfl, e2⟩
 ·simp [Instr.sliceBounds]
 ·simp [Instr.sliceBounds, Instr.sliceBound, asIntOf, e2, h2, h3]
 ·simp [Instr.sliceBounds, Instr.sliceBound, asIntOf, e1, hr.1, hr.2.1]
 ·simp [Instr.sliceBounds, Instr.sliceBound, asIntOf, e1, e2, hr.1, h2, h3]
  intro hc; omega
theorem zPsa {T : TypeId} {x : Operand} {lo hi : Option Operand} (hE : EnvTy P env) (ho : o.op = .slice T x lo hi none) (hS : SR e F w st V fp none') (hA : AR env gh a V) (hN : Nxt env gh e K res next) (h : (evOp env o).run C st K = some res) : wpp P o a w next := by
 simp only [evOp, ho] at h
 obtain ⟨sv, h, hx⟩ := zSba h
 obtain ⟨t, m, y, src, h1, hd, _⟩ := zIna hS hA hx h
 obtain ⟨hv, hm, fq, hrep, _⟩ := hd.rep hS
 cases t with
 | str =>
  dsimp only at h1
  split at h1
  ·rename_i hT
   obtain ⟨l, h2, b1⟩ := zYma hS hA h1
   obtain ⟨hh, h3, b2⟩ := zYma hS hA h2
   simp only [RM.run] at h3
   cases hb : inR l hh (List.length y) with
   | false => rw [hb] at h3; cases h3
   | true =>
    rw [hb] at h3
    have hb' := zora hb
    have e1 := (zDga hv hm hrep).1
    have hln := (zDga hv hm hrep).2
    have hsz := zcna y
    refine endVp (v := .string ⟨(rng (y : List UInt8) l hh).toArray⟩) hS hA hN h3 (fun _ => rfl) (zcua (by rw [zfna hb']; omega)) (fun _ hb => hb) ?_
    have hbs := fun w => zena (P := P) (w := w) (b := false) (cap := List.length (y : List UInt8)) b1 b2 hb' (Nat.le_refl _)
    have hex := zFra y l hh
    have hu := zipa (Env.is_ok hE hT)
    intro w
    simp only [execOp, ho, e1, Option.map_none, Instr.sliceAt, Instr.slice, Sem.run_bind, run_underlying hu, Result.andThen_ok, hsz, hbs, Sem.run_pure, hex, Option.isSome_none, Bool.false_eq_true, if_false]
  ·simp [RM.run] at h1
 | sl et u =>
  dsimp only at h1
  split at h1
  ·rename_i hT
   obtain ⟨l, h2, b1⟩ := zYma hS hA h1
   obtain ⟨hh, h3, b2⟩ := zYma hS hA h2
   simp only [RM.run] at h3
   cases hb : inR l hh (List.length y) with
   | false => rw [hb] at h3; cases h3
   | true =>
    rw [hb] at h3
    have hb' := zora hb
    have key : ∀ {F : Blks} {st : St} {fp : Nat → Blks}, SR e F w st V fp none' → rep F w (.sl et u) .s y (cv (a.eval x)) none' → (fin env o (.v (.sl et u) .s (rng y l hh))).run C st K = some res → wpp P o a w next := by
     intro F st fp hS hrep h3
     obtain ⟨g1, g2⟩ := wt_sl (Env.is_ok hE hT)
     have hval : a.eval x = cv (a.eval x) 0 := by
      have h2 : a.eval x = valOf (.sl et u) (cv (a.eval x)) := hv
      simpa only [valOf, Ty.agg, Bool.false_eq_true, if_false] using h2
     simp only [rep] at hrep
     obtain ⟨A, cap, q1, q2, q3, q4, q5⟩ := hrep
     have hbs := fun w => zena (P := P) (w := w) (b := true) (cap := cap) b1 b2 hb' q2
     have hrun : ∀ w, (execOp a.eval o).run P w = .ok (.value (.slice (if cap = l.toNat then A else A.map (·.add (l.toNat * u.size))) (hh.toNat - l.toNat) (cap - l.toNat))) w := by
      intro w
      simp only [execOp, ho, hval.trans q1, Option.map_none, Instr.sliceAt, Instr.slice, Sem.run_bind, run_underlying g1, Result.andThen_ok, hbs, Sem.run_pure, zHca g2]
     have hlen := zfna (l := (y : List u.I)) hb'
     refine endVp (fq := none') hS hA hN h3 (fun _ => ?_) ?_ (fun _ hb => hb) hrun
     ·simp only [isV, valOf, Ty.agg, Bool.false_eq_true, if_false]; rfl
     ·simp only [rep]
      refine ⟨(if cap = l.toNat then A else A.map (·.add (l.toNat * u.size))), cap - l.toNat, ?_, ?_, ?_, ?_, fun A' hA' => ?_⟩
      ·rw [hlen]; rfl
      ·rw [hlen]; omega
      ·omega
      ·intro hA'
       cases A with
       | none => have := q4 rfl; omega
       | some A =>
        split at hA'
        ·cases hA'
        ·simp at hA'
      ·cases A with
       | none => split at hA' <;> simp at hA'
       | some A =>
        obtain ⟨hsp, q6, q7⟩ := q5 A rfl
        by_cases hcz : cap = 0
        ·have hcl : cap = l.toNat := by omega
         rw [if_pos hcl] at hA'
         cases hA'
         have h0 : hh.toNat - l.toNat = 0 := by omega
         refine ⟨fun hc => by omega, .inl (by rw [hlen, h0, Nat.zero_mul]), fun i hi => ?_⟩
         rw [hlen] at hi; omega
        replace hsp := hsp (by omega)
        obtain ⟨b, k, sp⟩ := A
        simp only at hsp
        subst hsp
        by_cases hcl : cap = l.toNat
        ·rw [if_pos hcl] at hA'
         cases hA'
         have h0 : hh.toNat - l.toNat = 0 := by omega
         refine ⟨fun _ => rfl, .inl (by rw [hlen, h0, Nat.zero_mul]), fun i hi => ?_⟩
         rw [hlen] at hi; omega
        ·rw [if_neg hcl] at hA'
         simp only [Option.map_some, Option.some.injEq, zJda] at hA'
         subst hA'
         refine ⟨fun _ => rfl, ?_, fun i hi => ?_⟩
         ·rcases q6 with q6 | ⟨q6, q8⟩
          ·left
           rcases Nat.mul_eq_zero.1 q6 with q6 | q6
           ·rw [hlen]
            have : hh.toNat - l.toNat = 0 := by omega
            rw [this, Nat.zero_mul]
           ·rw [q6, Nat.mul_zero]
          ·right
           refine ⟨q6, ?_⟩
           obtain ⟨cs, el, fz, p1, p2, p3⟩ := q8
           refine ⟨cs, el, fz, p1, ?_, p3⟩
           simp only at p2 ⊢
           rw [hlen]
           have : (l.toNat + (hh.toNat - l.toNat)) * u.size ≤ List.length (y : List u.I) * u.size := Nat.mul_le_mul_right _ (by omega)
           rw [Nat.add_mul] at this
           omega
         ·rw [hlen] at hi
          rw [zlqa hb' hi]
          have := q7 (l.toNat + i) (by omega)
          simp only at this ⊢
          rwa [Nat.add_mul, ← Nat.add_assoc] at this
    simp only [cond_true] at h3
    split at h3
    ·exact key hS (rep_s hrep) h3
    ·split at h3
     ·rename_i hnj
      have hfr : (zOfa src (fin env o (.v (.sl et u) .s (rng (y : List u.I) l hh)))).run C st K = some res → wpp P o a w next := by
       intro h3
       cases src with
       | none =>
        have hr := hd.2.2
        exact key hS (zEga (fun _ hb => hb) hr hnj (fun _ hb => hb.elim)) h3
       | some rp =>
        obtain ⟨st1, fp1, F1, h4, hS1, hF1, hv1, hrep1⟩ := znha hS hd.at nofun h3
        exact key hS1 hrep1 h4
      unfold cutS at h3
      split at h3
      ·split at h3
       ·rename_i r p
        obtain ⟨g1, g2⟩ := wt_sl (Env.is_ok hE hT)
        have hval : a.eval x = cv (a.eval x) 0 := by
         have h2 : a.eval x = valOf (.sl et u) (cv (a.eval x)) := hv
         simpa only [valOf, Ty.agg, Bool.false_eq_true, if_false] using h2
        have hA1 : ∃ A cap, cv (a.eval x) 0 = .slice A (List.length (y : List u.I)) cap ∧ List.length (y : List u.I) ≤ cap := by
         cases m <;> simp only [rep] at hrep <;> first | exact absurd rfl hm | (obtain ⟨A, cap, q1, q2, _⟩ := hrep; exact ⟨A, cap, q1, q2⟩)
        obtain ⟨A, cap, q1, q2⟩ := hA1
        have hbs := fun w => zena (P := P) (w := w) (b := true) (cap := cap) b1 b2 hb' q2
        refine endOp (fq := none') (v := zJna A cap l.toNat hh.toNat u.size) hS hA hN rfl h3 ?_ (fun _ hb => hb) ?_
        ·obtain ⟨_, t0, m0, x0, d1, d2, d3, d4, c', ad, d5, d6⟩ := hd
         intro t1 m1 x1 h2
         rw [d1] at h2
         cases h2
         refine ⟨d3, d4, _, c', ad, d5, et, u, A, List.length (y : List u.I), cap, rfl, ?_, hb'.1, hb'.2.1, hb'.2.2, rfl⟩
         have : a.eval x = c' 0 := by rw [d6]; simp only [valOf, Ty.agg, Bool.false_eq_true, if_false]
         rw [← this, hval]
         exact q1
        ·intro w
         simp only [execOp, ho, hval.trans q1, Option.map_none, Instr.sliceAt, Instr.slice, Sem.run_bind, run_underlying g1, Result.andThen_ok, hbs, Sem.run_pure, zHca g2, zJna]
       ·exact hfr h3
      ·exact hfr h3
     ·simp [RM.run] at h3
  ·simp [RM.run] at h1
 | _ => simp [RM.run] at h1
theorem zjva (l : List Int) (s : ByteArray) : l.foldl (fun r n => r.push (UInt8.ofNat n.toNat)) s = ⟨(s.data.toList ++ u8s l).toArray⟩ := by
 induction l generalizing s with
 | nil => simp [u8s]
 | cons n l ih =>
  simp only [List.foldl_cons]
  rw [ih]
  simp [u8s, ByteArray.push]
theorem zqoa {S T : TypeId} {kd k : IntKind} {n : Int} {d : TypeDesc} (h1 : P.underlying S = some d) (h2 : P.underlying T = some (.int k)) : (convert S T (.int kd n)).run P w = .ok (.int k (k.wrap n)) w := by
 simp only [convert, Sem.run_bind, run_underlying h1, run_underlying h2, Result.andThen_ok, Conv.intToInt]
 cases d <;> rfl
theorem zYra {b k : Nat} {y : List Int} {m : Md} {fs : Nat → Blks} (h : zIca w b (k + y.length) false) (hm : m ≠ .j) (hr : ∀ i, i < y.length → rep F w (.int .u8) m (y.getD i (0:Int)) (rowW w b (k + i)) (fs i)) :
  (loadCells ⟨b, k, none⟩ y.length).run P w = .ok (y.map (Value.int .u8)).toArray w := by
 rw [run_loadCells w ⟨b, k, none⟩ y.length (fun j => rowW w b 0 (k + j)) (fun j hj => by rw [zJda, zqja h (by omega)])]
 congr 2
 refine List.ext_getElem (by simp) fun i h1 h2 => ?_
 simp only [List.length_map] at h2
 have h3 := hr i h2
 have : rowW w b (k + i) 0 = .int .u8 (y.getD i (0:Int)) := by cases m <;> simp only [rep] at h3 <;> first | exact h3.1 | exact absurd rfl hm
 rw [zfba, Nat.add_zero] at this
 simp [this, List.getD, h2]
end
end Go.Trm
namespace Go.Trm
section
variable {P : Program} {env : Env} {e : Entry} {F : Blks} {w : World} {st : St} {V : Nat → Value} {fp : Nat → Blks} {fl : Blks} {a : Act} {o : Oper} {R : Type} {K : Unit → St → Option R} {res : R} {C : Cx R} {gh : Nat → Value} {next : Act → World → Prop} {Q : Exit → Act → World → Prop}
theorem SR.push {w' : World} {b : Nat} (hS : SR e F w st V fp fl) (hw : ∀ b, b < w.heap.size → w'.heap[b]? = w.heap[b]?) (hz : w'.heap.size = w.heap.size + 1) (hb : b = w.heap.size) (hst : Still w w') : SR e F w' st V fp (fun b' => fl b' ∨ b' = b) := by
 subst hb
 exact hS.world (fun b hb _ => hw b hb) ⟨hst, by omega⟩ (fun b hb => by
  rcases hb with hb | hb
  ·exact ⟨.inl hb, by have := hS.flH b hb; omega⟩
  ·exact ⟨.inr (by omega), by omega⟩)
theorem zzca {w : World} {ob : Obj} {b : Nat} (h : b < w.heap.size) : (w.alloc ob).heap[b]? = w.heap[b]? := by
 simp only [World.alloc, Array.getElem?_push]
 rw [if_neg (by omega)]
theorem zhga {w : World} {ob : Obj} : (w.alloc ob).heap[w.heap.size]? = some ob := by
 simp only [World.alloc]; exact Array.getElem?_push_size
theorem zNta {et : TypeId} {u : Ty} {v : Value} (hv : isV (.sl et u) v) : v = cv v 0 := by
 have h2 : v = valOf (.sl et u) (cv v) := hv
 simpa only [valOf, Ty.agg, Bool.false_eq_true, if_false] using h2
theorem zNua {et : TypeId} {u : Ty} {v : Value} (hv : isV (.ptr et u) v) : v = cv v 0 := by
 have h2 : v = valOf (.ptr et u) (cv v) := hv
 simpa only [valOf, Ty.agg, Bool.false_eq_true, if_false] using h2
theorem zRra {et : TypeId} {u : Ty} {A : Option Addr} {n c : Nat} : isV (.sl et u) (.slice A n c) := by
 simp only [isV, valOf, Ty.agg, Bool.false_eq_true, if_false]; rfl
theorem zTua {et : TypeId} {u : Ty} {A : Option Addr} : isV (.ptr et u) (.pointer A) := by
 simp only [isV, valOf, Ty.agg, Bool.false_eq_true, if_false]; rfl
theorem zUpa (s : ByteArray) (cap : Nat) (h : s.size ≤ cap) : (bytesRow s cap).size = cap := by
 simp only [bytesRow, Array.size_append, Array.size_map, Array.size_replicate]
 have : s.data.size = s.size := rfl
 omega
theorem zMqa (y : List UInt8) (cap i : Nat) (h : i < y.length) : (bytesRow ⟨y.toArray⟩ cap).getD i undef = .int .u8 ((nums y).getD i (0 : Int)) := by
 simp only [bytesRow, Array.getD_eq_getD_getElem?]
 rw [Array.getElem?_append_left (by simpa using h)]
 simp [nums, List.getD, h]
theorem zOwa (l : List Int) : (u8s l).length = l.length := by simp [u8s]
theorem zXwa {et : TypeId} {v : Value} {m : Md} {y : List Int} {fq : Blks} (hv : isV (.sl et (.int .u8)) v) (hj : m.noJ = true) (hrep : rep F w (.sl et (.int .u8)) m y (cv v) fq) : (Conv.bytesToString v).run P w = .ok (.string ⟨(u8s y).toArray⟩) w := by
 have hm : m ≠ .j := by rintro rfl; cases hj
 obtain ⟨A, cap, q0, q1, q2⟩ := zNra hv hm hrep
 have q0' : v = .slice A y.length cap := q0
 have q1' : y.length ≤ cap := q1
 have hcv : cv v 0 = .slice A y.length cap := by rw [← zNta hv]; exact q0
 rw [q0']
 have hnone : A = none → (cap = 0) → (Conv.bytesToString (.slice A y.length cap)).run P w = .ok (.string ⟨(u8s y).toArray⟩) w := by
  rintro rfl rfl
  have : y = [] := List.eq_nil_of_length_eq_zero (by omega)
  subst this
  rfl
 have hsome : ∀ (b k : Nat) m, m ≠ .j → A = some ⟨b, k, none⟩ → zIca w b (k + y.length) false → (∃ fs : Nat → Blks, ∀ i, i < y.length → rep F w (.int .u8) m (y.getD i (0:Int)) (rowW w b (k + i)) (fs i)) →
   (Conv.bytesToString (.slice A y.length cap)).run P w = .ok (.string ⟨(u8s y).toArray⟩) w := by
  rintro b k m hm rfl hh ⟨fs, hr⟩
  refine (run_bytesToString w _ _ cap y (zYra hh hm hr)).trans ?_
  rw [zjva]
  rfl
 cases m with
 | j => exact absurd rfl hm
 | p _ _ =>
  simp only [rep] at hrep
  obtain ⟨A', cap', p1, p2, p3, p4, p5⟩ := hrep
  rw [hcv] at p1; cases p1
  cases A with
  | none => exact hnone rfl (p4 rfl)
  | some A => exact (p5 A rfl).2.elim
 | s =>
  simp only [rep] at hrep
  obtain ⟨A', cap', p1, p2, p3, p4, p5⟩ := hrep
  rw [hcv] at p1; cases p1
  cases A with
  | none => exact hnone rfl (p4 rfl)
  | some A =>
   obtain ⟨hsp, p6, p7⟩ := p5 A rfl
   by_cases hc0 : cap = 0
   ·have : y = [] := List.eq_nil_of_length_eq_zero (by omega)
    subst this
    exact run_bytesToString (P := P) w A 0 cap [] (run_loadCells w A 0 (fun _ => undef) (fun j hj => by omega))
   replace hsp := hsp (by omega)
   obtain ⟨b, k, sp⟩ := A
   simp only at hsp
   subst hsp
   simp only [Ty.size, Nat.mul_one] at p6 p7
   rcases p6 with p6 | ⟨_, p6⟩
   ·have : y = [] := List.eq_nil_of_length_eq_zero p6
    subst this
    exact run_bytesToString (P := P) w ⟨b, k, none⟩ 0 cap [] (run_loadCells w ⟨b, k, none⟩ 0 (fun _ => undef) (fun j hj => by omega))
   ·exact hsome b k .s nofun rfl p6 ⟨fun _ => none', fun i hi => p7 i hi⟩
 | o m' =>
  simp only [rep] at hrep
  obtain ⟨A', cap', p1, p2, p3, p4, p5⟩ := hrep
  rw [hcv] at p1; cases p1
  cases A with
  | none => exact hnone rfl (p4 rfl)
  | some A =>
   obtain ⟨hsp, p6, p7, fs, p8, p9, p10⟩ := p5 A rfl
   by_cases hc0 : cap = 0
   ·have : y = [] := List.eq_nil_of_length_eq_zero (by omega)
    subst this
    exact run_bytesToString (P := P) w A 0 cap [] (run_loadCells w A 0 (fun _ => undef) (fun j hj => by omega))
   replace hsp := hsp (by omega)
   obtain ⟨b, k, sp⟩ := A
   simp only at hsp
   subst hsp
   simp only [Ty.size, Nat.mul_one] at p7 p10
   have hl : zIca w b (k + y.length) false := by
    obtain ⟨cs, el, fz, z1, z2, _⟩ := p7
    exact ⟨cs, el, fz, z1, by have z3 : k + cap ≤ cs.size := z2; omega, nofun⟩
   have hm' : m' ≠ .j := by rintro rfl; cases hj
   exact hsome b k m' hm' rfl hl ⟨fs, p10⟩
theorem zWwa {S T et : TypeId} (y : List UInt8) (hs : P.underlying S = some .string) (hd : P.underlying T = some (.slice et)) (he : P.underlying et = some (.int .u8)) :
  (convert S T (.string ⟨y.toArray⟩)).run P w = .ok (.slice (some ⟨w.heap.size, 0, none⟩) y.length (grownCap w y.length 0 et))
   (w.drew.alloc (.cells (bytesRow ⟨y.toArray⟩ (grownCap w y.length 0 et)) et ((bytesRow ⟨y.toArray⟩ (grownCap w y.length 0 et)).size, (bytesRow ⟨y.toArray⟩ (grownCap w y.length 0 et)).size + 1))) := by
 have hr := run_bytes_of_string (P := P) w S T et ⟨y.toArray⟩ hs hd he
 rwa [zcna] at hr
theorem zWta {et : TypeId} {y : List UInt8} {gc : Nat} {w' : World} {N : Nat} (hcap : y.length ≤ gc) (hmx : gc ≤ 2 ^ 63 - 1) (hnew : w'.heap[N]? = some (.cells (bytesRow ⟨y.toArray⟩ gc) et ((bytesRow ⟨y.toArray⟩ gc).size, (bytesRow ⟨y.toArray⟩ gc).size + 1))) :
  rep F w' (.sl et (.int .u8)) (.o .s) (nums y) (cv (.slice (some ⟨N, 0, none⟩) y.length gc)) (fun b => b = N) := by
 have hnl : (nums y).length = y.length := by simp [nums]
 have hrow := zUpa ⟨y.toArray⟩ gc (by rw [zcna]; exact hcap)
 simp only [rep]
 refine ⟨some ⟨N, 0, none⟩, gc, ?_, ?_, hmx, nofun, fun A' hA' => ?_⟩
 ·show Value.slice _ _ _ = Value.slice _ (nums y).length _
  rw [hnl]
 ·show (nums y).length ≤ gc
  rw [hnl]; exact hcap
 ·cases hA'
  refine ⟨fun _ => rfl, rfl, ⟨_, _, _, hnew, ?_, ?_⟩, fun _ => none', ⟨fun _ _ _ _ hb => hb.elim⟩, fun _ _ hb => hb.elim, fun i hi => ?_⟩
  ·rw [hrow]; simp [Ty.size]
  ·exact fun _ => .inr (Nat.le_refl _)
  ·have hi' : i < (nums y).length := hi
   rw [hnl] at hi'
   have hb := zMqa y gc i hi'
   have e2 : rowW w' N (0 + i * Ty.size (.int .u8)) 0 = (bytesRow ⟨y.toArray⟩ gc).getD i undef := by
    simp only [rowW, hnew, rowOf, Ty.size, Nat.mul_one, Nat.zero_add, Nat.add_zero]
   refine ⟨e2.trans hb, ?_⟩
   have : ((nums y).getD i (0 : Int)) = ((y.getD i 0).toNat : Int) := by simp [nums, List.getD, hi']
   have h4 : ((y.getD i (0 : UInt8)).toNat) < 256 := UInt8.toNat_lt _
   have e3 : IntKind.u8.min = 0 := by decide
   have e4 : IntKind.u8.max = 255 := by decide
   show IntKind.u8.has ((nums y).getD i (0 : Int))
   rw [this]
   constructor
   ·rw [e3]; omega
   ·rw [e4]; omega
theorem zFva (hE : EnvTy P env) (hp : zfta env o.op = true) (hS : SR e F w st V fp none') (hA : AR env gh a V) (hN : Nxt env gh e K res next) (h : (evOp env o).run C st K = some res) : wpp P o a w next := by
 unfold zfta at hp
 split at hp
 ·rename_i S T x ho
  simp only [evOp, ho] at h
  split at hp
  ·rename_i k hd
   rw [hd] at h
   cases hs : env.ty S with
   | none => rw [hs] at h; simp [RM.run] at h
   | some ts =>
    rw [hs] at h
    simp only at h
    obtain ⟨kd, n, h1, e1, r1⟩ := zoea hS hA h
    obtain ⟨d, hu⟩ := zFwa (hE.ty _ _ hs)
    refine endVp (v := .int k (k.wrap n)) hS hA hN h1 (fun _ => rfl) (zifa (zhea _ _)) (fun _ hb => hb) fun w' => ?_
    simp only [execOp, ho, Sem.run_bind]
    rw [e1, zqoa hu (zYpa (hE.ty _ _ hd))]
    rfl
  ·cases hp
 ·cases hp
theorem zVra {w : World} {b n : Nat} {cs : Array Value} {el : TypeId} {fz : Nat × Nat} (h : w.heap[b]? = some (.cells cs el fz)) :
  (w.freeze ⟨b, n, none⟩ 1).heap[b]? = some (.cells cs el (if fz.1 == fz.2 then (n, n + 1) else (min fz.1 n, max fz.2 (n + 1)))) ∧ (∀ b', b' ≠ b → (w.freeze ⟨b, n, none⟩ 1).heap[b']? = w.heap[b']?) ∧ (w.freeze ⟨b, n, none⟩ 1).heap.size = w.heap.size := by
 obtain ⟨lo, hi⟩ := fz
 unfold World.freeze
 rw [if_neg (by decide)]
 have hb := (Array.getElem?_eq_some_iff.1 h).1
 refine ⟨?_, fun b' hb' => ?_, ?_⟩
 ·simp only [Array.getElem?_modify, h, if_true, Option.map_some]
 ·simp only [Array.getElem?_modify, if_neg (Ne.symm hb')]
 ·simp
theorem zhxa {S et : TypeId} {y : List Int} {val : Value} {fq : Blks} (g1 : P.underlying S = some (.slice et)) (g2 : P.underlying et = some (.int .u8)) (hS : SR e F w st V fp fl) (hv : isV (.sl et (.int .u8)) val) (hr : rep F w (.sl et (.int .u8)) (.o .s) y (cv val) fq) (h0 : 0 < y.length) (hq : ∀ b, fq b → fl b) :
  ∃ w', (convert S S val).run P w = .ok val w' ∧ SR e F w' st V fp fl ∧ rep F w' (.sl et (.int .u8)) (.o .s) y (cv val) fq := by
 have hval := zNta hv
 have hr0 := hr
 simp only [rep] at hr
 obtain ⟨A, cap, q1, q2, q3, q4, q5⟩ := hr
 have q2' : y.length ≤ cap := q2
 cases A with
 | none => have := q4 rfl; omega
 | some A =>
  obtain ⟨hsp, p1, p2, fs, d1, s1, r1⟩ := q5 A rfl
  replace hsp := hsp (by omega)
  obtain ⟨b, k, sp⟩ := A
  simp only at hsp
  subst hsp
  simp only at p1 p2 s1 r1
  obtain ⟨cs, el, fz, c1, c2, c3⟩ := p2
  obtain ⟨k1, k2, k3⟩ := zVra (n := cs.size) c1
  have hsh : w.shape? b = some (el, cs.size) := by unfold World.shape?; rw [c1]
  refine ⟨w.freeze ⟨b, cs.size, none⟩ 1, ?_, hS.world (fun b' _ hb' => k2 b' (fun hc => hb' (hc ▸ hq b p1))) ⟨⟨rfl, rfl, rfl⟩, Nat.le_of_eq k3.symm⟩ (fun b' hb' => ⟨.inl hb', by rw [k3]; exact hS.flH b' hb'⟩), ?_⟩
  ·rw [hval.trans q1]
   simp [convert, run_underlying g1, run_underlying g2, markStringish, hsh]
  ·simp only [rep]
   refine ⟨some ⟨b, k, none⟩, cap, q1, q2, q3, nofun, fun A hA => ?_⟩
   cases hA
   refine ⟨fun _ => rfl, p1, ⟨cs, el, _, k1, c2, fun h => ?_⟩, fs, d1, s1, fun i hi => ?_⟩
   ·have c4 := c3 h
    split
    ·exact .inr (Nat.le_refl _)
    ·rename_i hne
     rcases c4 with c4 | c4
     ·simp [c4] at hne
     ·exact .inr (by simp only; omega)
   ·have h1 := r1 i hi
    have e1 : rowW (w.freeze ⟨b, cs.size, none⟩ 1) b (k + i * Ty.size (.int .u8)) = rowW w b (k + i * Ty.size (.int .u8)) := by
     funext j
     simp only [rowW, k1, c1]
    rw [e1]
    exact h1
theorem zPta (n : Int) : (runeB n).length ≤ 4 := by
 unfold runeB Utf8.encode
 dsimp only
 generalize (if Utf8.valid n = true then n.toNat else Utf8.runeError) = c
 by_cases h1 : c < 128
 ·rw [if_pos h1]; exact Nat.le_of_ble_eq_true rfl
 ·rw [if_neg h1]
  by_cases h2 : c < 2048
  ·rw [if_pos h2]; exact Nat.le_of_ble_eq_true rfl
  ·rw [if_neg h2]
   by_cases h3 : c < 65536
   ·rw [if_pos h3]; exact Nat.le_of_ble_eq_true rfl
   ·rw [if_neg h3]; exact Nat.le_of_ble_eq_true rfl
theorem zTsa {S T : TypeId} {x : Operand} (hE : EnvTy P env) (ho : o.op = .convert S T x) (hS : SR e F w st V fp none') (hA : AR env gh a V) (hN : Nxt env gh e K res next) (h : (evOp env o).run C st K = some res) : o.wp P a w next Q := by
 simp only [evOp, ho] at h
 have hrun : ∀ {v : Value} {w' : World}, (convert S T (a.eval x)).run P w = .ok v w' → (execOp a.eval o).run P w = .ok (.value v) w' := by
  intro v w' hc
  simp only [execOp, ho, Sem.run_bind, hc, Result.andThen_ok, Sem.run_pure]
 split at h
 ·rename_i ts k hs hd
  obtain ⟨kd, n, h1, e1, r1⟩ := zoea hS hA h
  obtain ⟨d, hu⟩ := zFwa (hE.ty _ _ hs)
  refine endV (v := .int k (k.wrap n)) hS hA hN h1 (fun _ => rfl) (zifa (zhea _ _)) (fun _ hb => hb) (hrun ?_)
  rw [e1]
  exact zqoa hu (zYpa (hE.ty _ _ hd))
 ·rename_i ts hs hd
  obtain ⟨t, m, y, src, h1, hda, _⟩ := zWca hS hA h
  obtain ⟨hv, hm, fq, hrep, _⟩ := hda.rep hS
  split at h1
  ·rename_i et y hT
   simp only [Bool.and_eq_true] at hT
   obtain ⟨g1, g2⟩ := wt_sl (Env.is_ok hE hT.1)
   have g3 := zYpa g2
   have hd' := zipa (hE.ty _ _ hd)
   refine endV (v := .string ⟨(u8s y).toArray⟩) hS hA hN h1 (fun _ => rfl) (zcua ?_) (fun _ hb => hb) (hrun ?_)
   ·obtain ⟨A, cap, q0, q1, q2⟩ := zNra hv hm hrep
    exact Nat.le_trans (Nat.le_of_eq (zOwa y)) (Nat.le_trans q1 q2)
   have hc : ∀ {x : Value} {A : Option Addr} {n c : Nat}, x = .slice A n c → (convert S T x).run P w = (Conv.bytesToString x).run P w := by
    rintro x A n c rfl
    simp only [convert, Sem.run_bind, run_underlying g1, run_underlying hd', run_underlying g3, Result.andThen_ok]
   obtain ⟨A, cap, q0, q1, q2⟩ := zNra hv hm hrep
   rw [hc q0]
   exact zXwa hv hT.2 hrep
  ·rename_i kk y hT
   simp only [Bool.and_eq_true] at hT
   have g3 := zYpa (Env.is_ok hE hT.1)
   have hd' := zipa (hE.ty _ _ hd)
   have e1 := (zhna hv hm hrep).1
   refine endV (v := .string ⟨(runeB y).toArray⟩) hS hA hN h1 (fun _ => rfl) (zcua ?_) (fun _ hb => hb) (hrun ?_)
   ·exact Nat.le_trans (zPta y) (by omega)
   ·rw [e1]
    simp only [convert, Sem.run_bind, run_underlying g3, run_underlying hd', Result.andThen_ok]
    rfl
  ·simp [RM.run] at h1
 ·rename_i ts et hs hd
  obtain ⟨t, m, y, src, h1, hda, _⟩ := zWca hS hA h
  obtain ⟨hv, hm, fq, hrep, _⟩ := hda.rep hS
  split at h1
  ·rename_i y hT
   have e1 := (zDga hv hm hrep).1
   simp only [RM.run] at h1
   cases hq : decide (List.length y ≤ most) with
   | false => rw [hq] at h1; cases h1
   | true =>
    rw [hq] at h1
    have hq' := of_decide_eq_true hq
    obtain ⟨g1, g2⟩ := wt_sl (hE.ty _ _ hd)
    have hr := zWwa (P := P) (w := w) y (zipa (Env.is_ok hE hT)) g1 (zYpa g2)
    have hmx' : List.length (α := UInt8) y ≤ maxLen := by unfold maxLen; unfold most at hq'; have : List.length (α := UInt8) y ≤ 4294967296 := hq'; omega
    have hcap := grownCap_ge w (List.length (α := UInt8) y) 0 et
    have hmx := grownCap_le_maxLen w (List.length (α := UInt8) y) 0 et hmx'
    have hnew := zhga (w := w.drew) (ob := .cells (bytesRow ⟨List.toArray (α := UInt8) y⟩ (grownCap w (List.length (α := UInt8) y) 0 et)) et ((bytesRow ⟨List.toArray (α := UInt8) y⟩ (grownCap w (List.length (α := UInt8) y) 0 et)).size, (bytesRow ⟨List.toArray (α := UInt8) y⟩ (grownCap w (List.length (α := UInt8) y) 0 et)).size + 1))
    refine endV (fq := fun b => b = w.heap.size) (hS.push (w' := w.drew.alloc _) (fun b hb => zzca (w := w.drew) hb) (World.size_alloc w.drew _) rfl ⟨rfl, rfl, rfl⟩) hA hN h1 (fun _ => zRra) (zWta hcap hmx hnew) (fun _ hb => .inr hb) (hrun (by rw [e1]; exact hr))
  ·rename_i e' y hT
   split at h1
   ·rename_i hST
    have hST' := Nat.eq_of_beq_eq_true hST
    subst hST'
    obtain ⟨st1, fp1, fq1, h2, hS1, hv1, _, hr1, _⟩ := zjga hS hda h1
    simp only [RM.run] at h2
    cases hb : Nat.blt 0 (List.length (α := (Ty.int .u8).I) y) with
    | false => rw [hb] at h2; cases h2
    | true =>
     rw [hb] at h2
     have hb' : 0 < List.length (α := Int) y := Nat.le_of_ble_eq_true hb
     obtain ⟨g1, g2⟩ := wt_sl (Env.is_ok hE hT)
     obtain ⟨w', hr, hS2, hr2⟩ := zhxa g1 (zYpa g2) hS1 hv1 hr1 hb' (fun b hb => .inr hb)
     exact endV hS2 hA hN h2 (fun _ => hv1) hr2 (fun b hb => .inr hb) (hrun hr)
   ·simp [RM.run] at h1
  ·simp [RM.run] at h1
 ·simp [RM.run] at h
end
end Go.Trm
namespace Go.Trm
theorem znta {α : Type} (l : List α) (d : α) : ∀ (n i j : Nat), i < n → j < l.length → (List.replicate n l).flatten.getD (i * l.length + j) d = l.getD j d := by
 intro n
 induction n with
 | zero => intro i j h; omega
 | succ n ih =>
  intro i j h hj
  simp only [List.replicate_succ, List.flatten_cons, List.getD_eq_getElem?_getD]
  cases i with
  | zero => rw [Nat.zero_mul, Nat.zero_add, List.getElem?_append_left hj]
  | succ i =>
   rw [Nat.add_mul, Nat.one_mul, List.getElem?_append_right (by omega)]
   have := ih i j (by omega) hj
   simp only [List.getD_eq_getElem?_getD] at this
   rw [← this]
   congr 2
   omega
theorem zcwa (k : IntKind) : k.has 0 := by
 cases k <;> exact ⟨by decide, by decide⟩
theorem zina {F : Blks} {w : World} : ∀ {t : Ty} {m : Md} {c : Cells} {fq : Blks}, (∀ j, j < t.size → c j = (zVaa t).getD j undef) → rep F w t m t.dflt c fq := by
 intro t
 induction t with
 | int k => intro m c fq h; have := h 0 (by simp [Ty.size]); cases m <;> simp only [rep] <;> exact ⟨this, zcwa k⟩
 | bool => intro m c fq h; have := h 0 (by simp [Ty.size]); cases m <;> simp only [rep] <;> exact this
 | err => intro m c fq h; have := h 0 (by simp [Ty.size]); cases m <;> simp only [rep] <;> exact this
 | str => intro m c fq h; have := h 0 (by simp [Ty.size]); cases m <;> simp only [rep] <;> exact ⟨this, by decide⟩
 | sl e t ih =>
  intro m c fq h
  have := h 0 (by simp [Ty.size])
  cases m <;> simp only [rep] <;> exact ⟨none, 0, this, Nat.le_refl _, by decide, fun _ => rfl, nofun⟩
 | ptr e t ih =>
  intro m c fq h
  have := h 0 (by simp [Ty.size])
  cases m <;> simp only [rep] <;> exact ⟨none, this, rfl⟩
 | unit => intro m c fq h; cases m <;> simp only [rep]
 | pair a b iha ihb =>
  intro m c fq h
  have ha : ∀ j, j < a.size → c j = (zVaa a).getD j undef := fun j hj => by
   rw [h j (by simp only [Ty.size]; omega)]
   simp only [zVaa, List.getD_eq_getElem?_getD]
   rw [List.getElem?_append_left (by rw [zmaa]; exact hj)]
  have hb : ∀ j, j < b.size → c (a.size + j) = (zVaa b).getD j undef := fun j hj => by
   rw [h _ (by simp only [Ty.size]; omega)]
   simp only [zVaa, List.getD_eq_getElem?_getD]
   rw [List.getElem?_append_right (by rw [zmaa]; omega), zmaa, Nat.add_sub_cancel_left]
  have : ∃ fa fb : Blks, (∀ i, fa i → fq i) ∧ (∀ i, fb i → fq i) ∧ (∀ i, fa i → ¬ fb i) ∧ rep F w a m.fst a.dflt c fa ∧ rep F w b m.snd b.dflt (fun j => c (a.size + j)) fb :=
   ⟨none', none', fun _ h => h.elim, fun _ h => h.elim, fun _ h => h.elim, iha ha, ihb hb⟩
  cases m with
  | j => exact rep_j
  | _ => simpa only [rep, Ty.dflt] using this
 | arr n t ih =>
  intro m c fq h
  have : (List.replicate n t.dflt).length = n ∧ ∃ fs : Nat → Blks, Disj fs ∧ (∀ i b, fs i b → fq b) ∧ ∀ i, i < n → rep F w t m.el ((List.replicate n t.dflt).getD i t.dflt) (fun j => c (i * t.size + j)) (fs i) := by
   refine ⟨by simp, fun _ => none', ⟨fun _ _ _ _ h => h.elim⟩, fun _ _ h => h.elim, fun i hi => ?_⟩
   have e1 : (List.replicate n t.dflt).getD i t.dflt = t.dflt := by simp [List.getD, hi]
   rw [e1]
   refine ih fun j hj => ?_
   rw [h _ (by
    simp only [Ty.size]
    calc i * t.size + j < i * t.size + t.size := by omega
     _ = (i + 1) * t.size := by rw [Nat.add_mul, Nat.one_mul]
     _ ≤ n * t.size := Nat.mul_le_mul_right _ hi)]
   simp only [zVaa]
   rw [← zmaa t]
   exact znta _ _ _ _ _ hi (by rw [zmaa]; exact hj)
  cases m with
  | j => exact rep_j
  | _ => simpa only [rep, Ty.dflt] using this
section
variable {P : Program} {env : Env} {e : Entry} {F : Blks} {w : World} {st : St} {V : Nat → Value} {fp : Nat → Blks} {fl : Blks} {a : Act} {o : Oper} {R : Type} {K : Unit → St → Option R} {res : R} {C : Cx R} {gh : Nat → Value} {next : Act → World → Prop} {Q : Exit → Act → World → Prop}
theorem zKja {w' : World} {N : Nat} {cs : Array Value} {el : TypeId} {fz : Nat × Nat} (h : w'.heap[N]? = some (.cells cs el fz)) (o j : Nat) : rowW w' N o j = cs.getD (o + j) undef := by
 simp only [rowW, h, rowOf]
theorem zdna (T : TypeId) (v : Value) : (newVar T v).run P w = .ok ⟨w.heap.size, 0, none⟩ (w.alloc (.cells v.cells T)) := rfl
theorem zHva {T : TypeId} (hE : EnvTy P env) (ho : o.op = .alloc T) (hS : SR e F w st V fp none') (hA : AR env gh a V) (hN : Nxt env gh e K res next) (h : (evOp env o).run C st K = some res) : o.wp P a w next Q := by
 simp only [evOp, ho] at h
 split at h
 ·rename_i t ht
  obtain ⟨i, z, h1, h2, h3, h4, h5, h6⟩ := zFia (hE.ty _ _ ht)
  have hrun : (execOp a.eval o).run P w = .ok (.value (.pointer (some ⟨w.heap.size, 0, none⟩))) (w.alloc (.cells z.cells T)) := by
   simp only [execOp, ho, Instr.alloc, Sem.run_bind, zhqa (hE.ty _ _ ht), Result.andThen_ok, zdna, Sem.run_pure]
   rw [← h5]
  have hnew := zhga (w := w) (ob := .cells z.cells T)
  refine endV (fq := fun b => b = w.heap.size) (hS.push (fun b hb => zzca hb) (World.size_alloc w _) rfl ⟨rfl, rfl, rfl⟩) hA hN h (fun _ => zTua) ?_ (fun _ hb => .inr hb) hrun
  simp only [rep]
  refine ⟨_, rfl, _, rfl, rfl, rfl, ⟨_, _, _, hnew, ?_, fun _ => .inl rfl⟩, none', fun _ hb => hb.elim, zina fun j hj => ?_⟩
  ·rw [h6]; simp [zmaa]
  ·rw [zKja hnew, Nat.zero_add, h6]
   simp [Array.getD_eq_getD_getElem?, List.getD]
 ·simp [RM.run] at h
theorem zPoa {t : Ty} {m : Md} {y : t.I} {v : Value} {fq : Blks} (hv : isV t v) (hm : m ≠ .j) (hrep : rep F w t m y (cv v) fq) : v.cells.size = t.size := by
 refine znsa hv fun ha => ?_
 have := zSha hrep hm ha
 have hv' : v = valOf t (cv v) := hv
 rw [hv']
 simp only [valOf, ha, Bool.false_eq_true, if_false]
 exact this
theorem zLxa {r : Nat} {T : TypeId} {t : Ty} {m : Md} {y : t.I} {v : Value} (hS : SR e F w st V fp fl) (hst : st r = .v (.ptr T t) (.o m) (some y)) (ha : AlOk w st V r [.der] v) : v = V r := by
 obtain ⟨_, _, _, u, c', b, o, h1, h2⟩ := ha _ _ _ hst
 have h3 := zCta hS hst
 obtain ⟨_, _, _, u', c'', b', o', h4, h5⟩ := h3 _ _ _ hst
 rw [h1] at h4
 cases h4
 rw [h2, h5]
theorem zkxa {T : TypeId} {x : Operand} {r : Nat} (hE : EnvTy P env) (ho : o.op = .box T x) (ha : AlOk w st V r [.der] (a.eval x)) (hS : SR e F w st V fp none') (hA : AR env gh a V) (hN : Nxt env gh e K res next) (h : (boxAl env o T r).run C st K = some res) : o.wp P a w next Q := by
 unfold boxAl at h
 split at h
 ·rename_i hT
  simp only [Bool.and_eq_true] at hT
  have hg := Nat.le_of_ble_eq_true hT.1
  obtain ⟨U, t, hw⟩ := zbta hE hT.2
  simp only [ownR, RM.run] at h
  split at h
  ·rename_i T' t' m y hst
   have hv := zLxa hS hst ha
   have hcell : (a.eval x).cells = #[a.eval x] := by
    obtain ⟨_, _, _, u, c', b, o, h1, h2⟩ := ha _ _ _ hst
    rw [h2]; rfl
   have hrun : (execOp a.eval o).run P w = .ok (.value (.pointer (some ⟨w.heap.size, 0, none⟩))) (w.alloc (.cells (a.eval x).cells T)) := by
    simp only [execOp, ho, Instr.box, Sem.run_bind, Result.andThen_ok, zdna, Sem.run_pure]
   have hnew := zhga (w := w) (ob := .cells (a.eval x).cells T)
   have hS1 := hS.push (fun b hb => zzca hb) (World.size_alloc w (.cells (a.eval x).cells T)) rfl ⟨rfl, rfl, rfl⟩
   have hS2 := hS1.moreF (F' := fun b => F b ∨ b = w.heap.size) (fl' := none') (fun b hb => .inl hb) (fun b hb => hb.imp id (fun hb => .inr hb)) (fun _ hb => hb.elim) (fun _ hb => hb.elim)
   refine endO (fq := none') hS2 hA hN rfl h ⟨hg, w.heap.size, 0, rfl, .inr rfl, ⟨_, _, _, hnew, ?_, fun _ => .inl rfl⟩, ?_⟩ (fun _ hb => hb) hrun
   ·rw [hcell]; simp
   ·rw [zKja hnew, hcell, ← hv]; rfl
  ·simp [RM.run] at h
 ·simp [RM.run] at h
theorem zdya {T : TypeId} {x : Operand} (hE : EnvTy P env) (ho : o.op = .box T x) (hS : SR e F w st V fp none') (hA : AR env gh a V) (hN : Nxt env gh e K res next) (h : (evOp env o).run C st K = some res) : o.wp P a w next Q := by
 simp only [evOp, ho, rdT] at h
 obtain ⟨sv, h, hx⟩ := zSba h
 split at h
 ·rename_i r
  refine zkxa hE ho ?_ hS hA hN h
  rcases hx with ⟨s, rfl, hs, h3⟩ | ⟨c, rfl, h3⟩ | ⟨f', rfl, h3⟩
  ·have hev : a.eval (.tmp s) = V (env.b + s) := hA.tmps s hs
   have hsv := hS.sv (env.b + s)
   rw [← h3] at hsv
   rw [hev]
   exact hsv
  ·unfold cst at h3; (repeat' split at h3) <;> cases h3
  ·cases h3
 obtain ⟨t, m, y, src, h1, hd, _⟩ := zWca hS hA h
 obtain ⟨st1, fp1, fq, h2, hS1, hv, hm, hrep, hfl, _⟩ := zjga hS hd h1
 split at h2
 ·rename_i hT
  have hsz := zPoa hv hm hrep
  have hrun : (execOp a.eval o).run P w = .ok (.value (.pointer (some ⟨w.heap.size, 0, none⟩))) (w.alloc (.cells (a.eval x).cells T)) := by
   simp only [execOp, ho, Instr.box, Sem.run_bind, Result.andThen_ok, zdna, Sem.run_pure]
  have hnew := zhga (w := w) (ob := .cells (a.eval x).cells T)
  refine endV (fq := fun b => b = w.heap.size ∨ fq b) (hS1.push (fun b hb => zzca hb) (World.size_alloc w _) rfl ⟨rfl, rfl, rfl⟩) hA hN h2 (fun _ => zTua) ?_ (fun _ hb => by rcases hb with hb | hb; exact .inr hb; exact .inl (.inr hb)) hrun
  simp only [rep]
  refine ⟨_, rfl, _, rfl, rfl, .inl rfl, ⟨_, _, _, hnew, by simp [hsz], fun _ => .inl rfl⟩, fq, fun b hb => ⟨.inr hb, ?_⟩, ?_⟩
  ·intro hc
   have := hS1.flH b (.inr hb)
   exact absurd hc (Nat.ne_of_lt this)
  ·refine zjaa (fun j hj => ?_) (ziaa (fun _ hb => hb) (fun b hb => zzca (hS1.inF b hb)) (fun b hb => zzca (hS1.flH b (.inr hb))) hrep)
   rw [zKja hnew, Nat.zero_add]
   rfl
 ·simp [RM.run] at h2
theorem zsxa {T U : TypeId} (y : List UInt8) (h : P.underlying T = some .string) : (Builtin.len_ #[T] U #[.string ⟨y.toArray⟩]).run P w = .ok (goInt (y.length : Nat)) w := by
 simp only [Builtin.len_, List.getElem?_toArray, List.getElem?_cons_zero, Sem.run_bind, run_underlying h, Result.andThen_ok, Sem.run_pure]
 rw [zcna]
theorem zixa {T : TypeId} {x : Operand} {c : Call} (hE : EnvTy P env) (ho : o.op = .call c) (hc : c.callee = .builtin .len) (h1 : c.args.toList = [x]) (h2 : c.argTypes.toList = [T]) (hS : SR e F w st V fp none') (hA : AR env gh a V) (hN : Nxt env gh e K res next)
  (h : (evB env o .len [x] [T]).run C st K = some res) : wpp P o a w next := by
 have e1 : c.args = #[x] := by apply Array.ext'; rw [h1]
 have e2 : c.argTypes = #[T] := by apply Array.ext'; rw [h2]
 have hrun : ∀ v, (∀ w, (Builtin.len_ #[T] o.type #[a.eval x]).run P w = .ok v w) → ∀ w, (execOp a.eval o).run P w = .ok (.value v) w := by
  intro v hv w
  simp only [execOp, ho, resolve, hc, e1, e2, Sem.run_bind, Sem.run_pure, Result.andThen_ok, invoke, builtin, List.map_toArray, List.map_cons, List.map_nil, hv]
 simp only [evB] at h
 obtain ⟨t, m, y, src, h1, hd, _⟩ := zWca hS hA h
 obtain ⟨hv, hm, fq, hrep, _⟩ := hd.rep hS
 have e3 : IntKind.i64.min = -9223372036854775808 := by decide
 have e4 : IntKind.i64.max = 9223372036854775807 := by decide
 cases hT : env.is T t with
 | false =>
  rw [hT] at h1
  simp only at h1
  split at h1
  ·rename_i et y
   split at h1
   ·rename_i et' u' hTy
    obtain ⟨A, cap, q0, q1, q2⟩ := zNra hv hm hrep
    refine endVp (v := goInt (List.length y : Nat)) hS hA hN h1 (fun _ => rfl) (zifa ?_) (fun _ hb => hb) (hrun _ ?_)
    ·constructor
     ·rw [e3]; omega
     ·rw [e4]; omega
    ·intro w
     simp only [Builtin.len_, List.getElem?_toArray, List.getElem?_cons_zero, Sem.run_bind, run_underlying (wt_sl (hE.ty _ _ hTy)).1, Result.andThen_ok, q0, Sem.run_pure]
   ·simp [RM.run] at h1
  ·simp [RM.run] at h1
 | true =>
 rw [hT] at h1
 have hE' := Env.is_ok hE hT
 cases t with
 | sl et u =>
  obtain ⟨A, cap, q0, q1, q2⟩ := zNra hv hm hrep
  refine endVp (v := goInt (List.length y : Nat)) hS hA hN h1 (fun _ => rfl) (zifa ?_) (fun _ hb => hb) (hrun _ ?_)
  ·constructor
   ·rw [e3]; omega
   ·rw [e4]; omega
  ·intro w
   simp only [Builtin.len_, List.getElem?_toArray, List.getElem?_cons_zero, Sem.run_bind, run_underlying (wt_sl hE').1, Result.andThen_ok, q0, Sem.run_pure]
 | str =>
  obtain ⟨q0, q1⟩ := zDga hv hm hrep
  refine endVp (v := goInt (List.length y : Nat)) hS hA hN h1 (fun _ => rfl) (zifa ?_) (fun _ hb => hb) (hrun _ ?_)
  ·have q1' : List.length y ≤ 2 ^ 63 - 1 := q1
   constructor
   ·rw [e3]; omega
   ·rw [e4]; omega
  ·rw [q0]
   exact fun w => zsxa y (zipa hE')
 | arr n u =>
  dsimp only at h1
  split at h1
  ·rename_i hk
   obtain ⟨el, g1, g2⟩ := zFta hE'
   refine endVp (v := goInt (n : Int)) hS hA hN h1 (fun _ => rfl) (zifa (zUua hk)) (fun _ hb => hb) (hrun _ ?_)
   intro w
   simp only [Builtin.len_, List.getElem?_toArray, List.getElem?_cons_zero, Sem.run_bind, run_underlying g1, Result.andThen_ok, Sem.run_pure]
  ·simp [RM.run] at h1
 | _ => simp [RM.run] at h1
end
end Go.Trm
namespace Go.Trm
def lay (v : Array Value) (off : Nat) (cs : Array Value) : Array Value := v.zipIdx.foldl (fun cs (c, j) => cs.setIfInBounds (off + j) c) cs
theorem zYsa (off : Nat) : ∀ (l : List Value) (k : Nat) (cs : Array Value), off + k + l.length ≤ cs.size →
  ((l.zipIdx k).foldl (fun cs (c, j) => cs.setIfInBounds (off + j) c) cs).size = cs.size ∧
  (∀ j, j < l.length → ((l.zipIdx k).foldl (fun cs (c, j) => cs.setIfInBounds (off + j) c) cs).getD (off + k + j) undef = l.getD j undef) ∧
  (∀ j, (j < off + k ∨ off + k + l.length ≤ j) → ((l.zipIdx k).foldl (fun cs (c, j) => cs.setIfInBounds (off + j) c) cs).getD j undef = cs.getD j undef)
 | [], k, cs, _ => ⟨rfl, fun j hj => by simp at hj, fun _ _ => rfl⟩
 | v :: l, k, cs, h => by
  simp only [List.length_cons] at h
  obtain ⟨h1, h2, h3⟩ := zYsa off l (k + 1) (cs.setIfInBounds (off + k) v) (by simp; omega)
  simp only [List.zipIdx_cons, List.foldl_cons]
  refine ⟨by simpa using h1, fun j hj => ?_, fun j hj => ?_⟩
  ·cases j with
   | zero =>
    rw [h3 (off + k + 0) (.inl (by omega))]
    have : off + k < cs.size := by omega
    simp [Array.getD, this]
   | succ j =>
    have := h2 j (by simpa using hj)
    rw [show off + k + (j + 1) = off + (k + 1) + j by omega, this]
    simp
  ·simp only [List.length_cons] at hj
   rw [h3 j (by omega)]
   have : off + k ≠ j := by omega
   simp only [Array.getD_eq_getD_getElem?]
   rw [Array.getElem?_setIfInBounds_ne this]
theorem ztxa {v cs : Array Value} {off : Nat} (h : off + v.size ≤ cs.size) : (lay v off cs).size = cs.size ∧ (∀ j, j < v.size → (lay v off cs).getD (off + j) undef = v.getD j undef) ∧ (∀ j, (j < off ∨ off + v.size ≤ j) → (lay v off cs).getD j undef = cs.getD j undef) := by
 have e : lay v off cs = (v.toList.zipIdx 0).foldl (fun cs (c, j) => cs.setIfInBounds (off + j) c) cs := by
  unfold lay
  rw [← Array.foldl_toList, Array.toList_zipIdx]
 rw [e]
 obtain ⟨h1, h2, h3⟩ := zYsa off v.toList 0 cs (by simpa using h)
 simp only [Nat.add_zero, Array.length_toList] at h1 h2 h3
 refine ⟨h1, fun j hj => ?_, h3⟩
 rw [h2 j hj]
 simp [List.getD, Array.getD_eq_getD_getElem?]
theorem zvra {place : Nat → Option (Nat × Nat)} {cs : Array Value} {i : Nat} {v : Value} {rest : List (Nat × Value)} {off size : Nat} (h : place i = some (off, size)) (h1 : v.cells.size = size) (h2 : off + size ≤ cs.size) :
  Instr.fill place cs ((i, v) :: rest) = Instr.fill place (lay v.cells off cs) rest := by
 simp only [Instr.fill, h]
 rw [if_neg (by simp [h1]; omega)]
 rfl
theorem zEsa {F : Blks} {w : World} : ∀ {t : Ty} {m : Md} {z : t.I} {c : Cells} {i : Nat} {u : Ty} {mu : Md} {y : u.I} {m' : Md} {z' : t.I} {fz fq : Blks} {d : Cells}, rep F w t m z c fz → setP t m z [.fld i] u mu y = some (m', z') → rep F w u mu y d fq → (∀ b, fz b → ¬ fq b) →
  ∃ k, fldT t i = some (u, k) ∧ k + u.size ≤ t.size ∧ ∀ c' : Cells, (∀ j, j < u.size → c' (k + j) = d j) → (∀ j, (j < k ∨ k + u.size ≤ j) → c' j = c j) → rep F w t m' z' c' (fun b => fz b ∨ fq b) := by
 intro t
 induction t with
 | pair a b iha ihb =>
  intro m z c i u mu y m' z' fz fq d h hs hy hd
  obtain ⟨fa, fb, h1, h2, h3, ra, rb⟩ := zpda h
  cases i with
  | zero =>
   simp only [setP] at hs
   split at hs
   ·rename_i ma xa hc
    split at hc
    ·rename_i y' hy'
     simp only [Option.some.injEq, Prod.mk.injEq] at hc hs
     obtain ⟨rfl, rfl⟩ := hc
     obtain ⟨rfl, rfl⟩ := hs
     obtain ⟨e, hy2⟩ := zhba hy'
     subst e
     simp only at hy2
     subst hy2
     refine ⟨0, rfl, by simp only [Ty.size]; omega, fun c' h4 h5 => ?_⟩
     refine zcra (fa := fq) (fb := fb) (fun _ hb => .inr hb) (fun _ hb => .inl (h2 _ hb)) (fun b hb hc => hd b (h2 b hc) hb) (zjaa (fun j hj => by rw [← h4 j hj, Nat.zero_add]) hy) (zjaa (fun j hj => (h5 _ (.inr (by omega))).symm) rb)
    ·cases hc
   ·cases hs
  | succ i =>
   simp only [setP] at hs
   split at hs
   ·rename_i mb xb hc
    simp only [Option.some.injEq] at hs
    cases hs
    obtain ⟨k, k1, k2, k3⟩ := ihb rb hc hy (fun b hb => hd b (h2 b hb))
    refine ⟨a.size + k, by simp [fldT, k1], by simp only [Ty.size]; omega, fun c' h4 h5 => ?_⟩
    refine zcra (fa := fa) (fb := fun b => fb b ∨ fq b) (fun _ hb => .inl (h1 _ hb)) (fun _ hb => by rcases hb with hb | hb; exact .inl (h2 _ hb); exact .inr hb) (fun b hb hc => by rcases hc with hc | hc; exact h3 b hb hc; exact hd b (h1 b hb) hc)
     (zjaa (fun j hj => (h5 j (.inl (by omega))).symm) ra)
     (k3 (fun j => c' (a.size + j)) (fun j hj => by rw [← Nat.add_assoc]; exact h4 j hj) (fun j hj => h5 _ (by omega)))
   ·cases hs
 | _ => intro m z c i u mu y m' z' fz fq d h hs hy hd; simp [setP] at hs
section
variable {P : Program} {env : Env} {e : Entry} {F : Blks} {w : World} {st : St} {V : Nat → Value} {fp : Nat → Blks} {fl : Blks} {a : Act} {o : Oper} {R : Type} {K : Unit → St → Option R} {res : R} {C : Cx R} {gh : Nat → Value} {next : Act → World → Prop} {Q : Exit → Act → World → Prop}
theorem zgsa : ∀ {t : Ty} {fs : List Field} {o : Nat}, wtF P t fs o = true → ∃ pl : List (Nat × Nat), fs.mapM (fun f => (P.info? f.type).map fun i => (f.offset, i.size)) = some pl ∧ ∀ i u k, fldT t i = some (u, k) → pl[i]? = some (o + k, u.size) := by
 intro t
 induction t with
 | unit =>
  intro fs o h
  cases fs with
  | nil => exact ⟨[], rfl, fun i u k hf => by simp [fldT] at hf⟩
  | cons f fs => simp [wtF] at h
 | pair a b iha ihb =>
  intro fs o h
  cases fs with
  | nil => simp [wtF] at h
  | cons f fs =>
   simp only [wtF, Bool.and_eq_true] at h
   obtain ⟨pl, h1, h2⟩ := ihb h.2.2
   obtain ⟨i, z, i1, i2, _⟩ := zFia h.2.1
   refine ⟨(f.offset, i.size) :: pl, by simp [h1, i1], fun n u k hf => ?_⟩
   cases n with
   | zero =>
    simp only [fldT, Option.some.injEq, Prod.mk.injEq] at hf
    obtain ⟨rfl, rfl⟩ := hf
    simp [Nat.eq_of_beq_eq_true h.1, i2]
   | succ n =>
    simp only [fldT, Option.map_eq_some_iff] at hf
    obtain ⟨⟨u', k'⟩, hf, he⟩ := hf
    simp only [Prod.mk.injEq] at he
    obtain ⟨rfl, rfl⟩ := he
    have := h2 n u' k' hf
    simp only [List.getElem?_cons_succ, this, Nat.add_assoc]
 | _ => intro fs o h; simp [wtF] at h
theorem zEta {t : Ty} {T : TypeId} (h : wt P t T = true) (hs : t.strc = true) : ∃ fs pl, P.underlying T = some (.struct fs) ∧ fs.toList.mapM (fun f => (P.info? f.type).map fun i => (f.offset, i.size)) = some pl ∧ ∀ i u k, fldT t i = some (u, k) → pl[i]? = some (k, u.size) := by
 cases t with
 | unit =>
  simp only [wt, Bool.and_eq_true] at h
  obtain ⟨_, h⟩ := h
  split at h
  ·rename_i fs h2
   refine ⟨fs, [], h2, ?_, fun i u k hf => by simp [fldT] at hf⟩
   have : fs.toList = [] := by simpa using h
   rw [this]; rfl
  ·cases h
 | pair a b =>
  simp only [wt, Bool.and_eq_true] at h
  obtain ⟨_, h⟩ := h
  split at h
  ·rename_i fs h2
   split at h
   ·rename_i f fs' h3
    have hw : wtF P (.pair a b) fs.toList 0 = true := by
     rw [h3]
     simp only [wtF, Nat.zero_add]
     exact h
    obtain ⟨pl, p1, p2⟩ := zgsa hw
    exact ⟨fs, pl, h2, p1, fun i u k hf => by rw [p2 i u k hf, Nat.zero_add]⟩
   ·cases h
  ·cases h
 | _ => cases hs
theorem zKpa {α : Type} {Kk : α → St → Option R} {Ts : Nat → TypeId} {t : Ty} {place : Nat → Option (Nat × Nat)} (hA : AR env gh a V) (hp : ∀ i u k, fldT t i = some (u, k) → place i = some (k, u.size)) : ∀ {ps : List (Nat × Operand)} {m : Md} {z : t.I} {k : Md → t.I → RM α} {st : St} {fp : Nat → Blks} {fl fz : Blks} {cs : Array Value},
  SR e F w st V fp fl → rep F w t m z (fun j => cs.getD j undef) fz → (∀ b, fz b → fl b) → cs.size = t.size → (zJoa env Ts ps t m z k).run C st Kk = some res →
  ∃ st' fp' fl' m' z' cs' fz', (k m' z').run C st' Kk = some res ∧ SR e F w st' V fp' fl' ∧ Instr.fill place cs (ps.map fun q => (q.1, a.eval q.2)) = some cs' ∧ rep F w t m' z' (fun j => cs'.getD j undef) fz' ∧ (∀ b, fz' b → fl' b) ∧ cs'.size = t.size
 | [], m, z, k, st, fp, fl, fz, cs, hS, hr, hf, hz, h => ⟨st, fp, fl, m, z, cs, fz, h, hS, rfl, hr, hf, hz⟩
 | (i, x) :: ps, m, z, k, st, fp, fl, fz, cs, hS, hr, hf, hz, h => by
  simp only [zJoa, rdT] at h
  obtain ⟨u, mu, y, src, h1, hd, _⟩ := zWca hS hA h
  obtain ⟨st1, fp1, fq, h2, hS1, hv, hm, hrep, hfl, _⟩ := zjga hS hd h1
  split at h2
  ·rename_i m' z' hset
   obtain ⟨kk, f1, f2, f3⟩ := zEsa hr hset hrep (fun b hb hc => hfl b hc (hf b hb))
   have hsz := zPoa hv hm hrep
   obtain ⟨l1, l2, l3⟩ := ztxa (v := (a.eval x).cells) (cs := cs) (off := kk) (by rw [hsz, hz]; exact f2)
   have hr' := f3 (fun j => (lay (a.eval x).cells kk cs).getD j undef) (fun j hj => l2 j (by rw [hsz]; exact hj)) (fun j hj => l3 j (by rw [hsz]; exact hj))
   obtain ⟨st', fp', fl', m2, z2, cs2, fz2, g1, g2, g3, g4⟩ := zKpa hA hp hS1 hr' (fun b hb => by rcases hb with hb | hb; exact .inl (hf b hb); exact .inr hb) (by rw [l1, hz]) h2
   refine ⟨st', fp', fl', m2, z2, cs2, fz2, g1, g2, ?_, g4⟩
   rw [List.map_cons, zvra (hp i u kk f1) hsz (by rw [hz]; exact f2)]
   exact g3
  ·simp [RM.run] at h2
theorem zdva {t : Ty} {cs : Array Value} (ha : t.agg = true) (hz : cs.size = t.size) : isV t (.agg cs) := by
 unfold isV valOf
 rw [ha]
 simp only [if_true]
 congr 1
 apply Array.ext
 ·simp [hz]
 ·intro i h1 h2
  simp [cv, Value.cells, Array.getD, h1]
theorem znva {t : Ty} (h : t.strc = true) : t.agg = true := by cases t <;> first | rfl | cases h
theorem zLoa {α : Type} {Kk : α → St → Option R} {T : TypeId} {t : Ty} {n : Nat} (hA : AR env gh a V) : ∀ {ps : List (Nat × Operand)} {m : Option Md} {z : List t.I} {k : Option Md → List t.I → RM α} {st : St} {fp : Nat → Blks} {fl : Blks} {fs : Nat → Blks} {cs : Array Value},
  SR e F w st V fp fl → z.length = n → Disj fs → (∀ i b, fs i b → fl b) → (∀ mm, (m = none ∨ m = some mm) → ∀ i, i < n → rep F w t mm (z.getD i t.dflt) (fun j => cs.getD (i * t.size + j) undef) (fs i)) → cs.size = n * t.size →
  (zjna env T t n ps m z k).run C st Kk = some res →
  ∃ st' fp' fl' m' z' cs' fs', (k m' z').run C st' Kk = some res ∧ SR e F w st' V fp' fl' ∧ Instr.fill (fun i => some (i * t.size, t.size)) cs (ps.map fun q => (q.1, a.eval q.2)) = some cs' ∧ z'.length = n ∧ Disj fs' ∧ (∀ i b, fs' i b → fl' b) ∧
   (∀ mm, (m' = none ∨ m' = some mm) → ∀ i, i < n → rep F w t mm (z'.getD i t.dflt) (fun j => cs'.getD (i * t.size + j) undef) (fs' i)) ∧ cs'.size = n * t.size ∧ (∀ mm, m = some mm → m' = some mm)
 | [], m, z, k, st, fp, fl, fs, cs, hS, hl, hdj, hf, hr, hz, h => ⟨st, fp, fl, m, z, cs, fs, h, hS, rfl, hl, hdj, hf, hr, hz, fun _ h => h⟩
 | (i, x) :: ps, m, z, k, st, fp, fl, fs, cs, hS, hl, hdj, hf, hr, hz, h => by
  simp only [zjna, rdT] at h
  obtain ⟨u, mu, y, src, h1, hd, _⟩ := zWca hS hA h
  obtain ⟨st1, fp1, fq, h2, hS1, hv, hm, hrep, hfl, _⟩ := zjga hS hd h1
  have hsz := zPoa hv hm hrep
  split at h2
  ·rename_i y' hc hi
   have hi' := zala hi
   obtain ⟨eu, hy⟩ := zhba hc
   subst eu
   simp only at hy
   subst hy
   have hle : i * u.size + u.size ≤ n * u.size := by
    calc i * u.size + u.size = (i + 1) * u.size := by rw [Nat.add_mul, Nat.one_mul]
     _ ≤ n * u.size := Nat.mul_le_mul_right _ hi'
   obtain ⟨l1, l2, l3⟩ := ztxa (v := (a.eval x).cells) (cs := cs) (off := i * u.size) (by rw [hsz, hz]; exact hle)
   have hrest : ∀ m', (m = none ∨ m = some mu) → m' = some mu → (zjna env T u n ps m' (z.set i y) k).run C st1 Kk = some res →
     ∃ st' fp' fl' m' z' cs' fs', (k m' z').run C st' Kk = some res ∧ SR e F w st' V fp' fl' ∧ Instr.fill (fun i => some (i * u.size, u.size)) cs (((i, x) :: ps).map fun q => (q.1, a.eval q.2)) = some cs' ∧ z'.length = n ∧ Disj fs' ∧ (∀ i b, fs' i b → fl' b) ∧
   (∀ mm, (m' = none ∨ m' = some mm) → ∀ i, i < n → rep F w u mm (z'.getD i u.dflt) (fun j => cs'.getD (i * u.size + j) undef) (fs' i)) ∧ cs'.size = n * u.size ∧ (∀ mm, m = some mm → m' = some mm) := by
    rintro m' hmm rfl h3
    obtain ⟨st', fp', fl', m2, z2, cs2, fs2, g1, g2, g3, g4, g5, g6, g7, g8, g9⟩ := zLoa hA (fs := fun j b => (j ≠ i ∧ fs j b) ∨ (j = i ∧ fq b)) (cs := lay (a.eval x).cells (i * u.size) cs) hS1 (by simpa using hl)
     ⟨fun j j' hjj b hb hb' => by
      rcases hb with ⟨q1, hb⟩ | ⟨q1, hb⟩ <;> rcases hb' with ⟨q2, hb'⟩ | ⟨q2, hb'⟩
      ·exact hdj.disj j j' hjj b hb hb'
      ·exact hfl b hb' (hf j b hb)
      ·exact hfl b hb (hf j' b hb')
      ·exact hjj (q1.trans q2.symm)⟩
     (fun j b hb => by
      rcases hb with ⟨_, hb⟩ | ⟨_, hb⟩
      ·exact .inl (hf j b hb)
      ·exact .inr hb)
     (fun mm hmm' j hj => by
      rcases hmm' with hmm' | hmm'
      ·cases hmm'
      cases hmm'
      by_cases hji : j = i
      ·subst hji
       rw [zida (by rw [hl]; exact hj)]
       exact zFga (fun b hb => .inr ⟨rfl, hb⟩) (zjaa (fun q hq => (l2 q (by rw [hsz]; exact hq)).symm) hrep)
      ·rw [zxca hji]
       refine zFga (fun b hb => .inl ⟨hji, hb⟩) (zjaa (fun q hq => (l3 _ ?_).symm) (hr mu hmm j hj))
       rw [hsz]
       rcases Nat.lt_or_gt_of_ne hji with h9 | h9
       ·left
        calc j * u.size + q < j * u.size + u.size := by omega
         _ = (j + 1) * u.size := by rw [Nat.add_mul, Nat.one_mul]
         _ ≤ i * u.size := Nat.mul_le_mul_right _ h9
       ·right
        calc i * u.size + u.size = (i + 1) * u.size := by rw [Nat.add_mul, Nat.one_mul]
         _ ≤ j * u.size := Nat.mul_le_mul_right _ h9
         _ ≤ j * u.size + q := Nat.le_add_right _ _)
     (by rw [l1, hz]) h3
    refine ⟨st', fp', fl', m2, z2, cs2, fs2, g1, g2, ?_, g4, g5, g6, g7, g8, fun mm hq => ?_⟩
    ·rw [List.map_cons, zvra (size := u.size) rfl hsz (by rw [hz]; exact hle)]
     exact g3
    ·rcases hmm with hmm | hmm
     ·rw [hmm] at hq; cases hq
     ·rw [hmm] at hq; cases hq; exact g9 _ rfl
   split at h2
   ·exact hrest _ (.inl rfl) rfl h2
   ·rename_i m0
    split at h2
    ·rename_i he
     have := Md.eqb_eq he
     subst this
     exact hrest _ (.inr rfl) rfl h2
    ·simp [RM.run] at h2
  ·simp [RM.run] at h2
end
end Go.Trm
