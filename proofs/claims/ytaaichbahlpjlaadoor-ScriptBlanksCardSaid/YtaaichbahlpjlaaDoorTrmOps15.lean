import Derived.Test.YtaaichbahlpjlaaDoorTrmOps11
import Derived.Laws.MakeOwn
import Derived.Deep.Upon
import Derived.Conc.MuLone
set_option linter.unusedVariables false
set_option linter.unusedSimpArgs false
namespace Go.Trm
theorem zJva {z : Array Value} {n i j : Nat} (hi : i < n) (hj : j < z.size) : (madeCells z (n * z.size)).getD (i * z.size + j) undef = z.getD j undef := by
 have h1 : i * z.size + j < n * z.size := by
  calc i * z.size + j < i * z.size + z.size := by omega
   _ = (i + 1) * z.size := by rw [Nat.add_mul, Nat.one_mul]
   _ ≤ n * z.size := Nat.mul_le_mul_right _ hi
 have h2 : (i * z.size + j) % z.size = j := by rw [Nat.add_comm, Nat.add_mul_mod_self_right, Nat.mod_eq_of_lt hj]
 simp only [madeCells, Array.getD_eq_getD_getElem?, Array.getElem?_map]
 rw [Array.getElem?_range, if_pos h1]
 simp [h2, hj]
theorem zGqa (f : Operand → Value) (ps : Array (Nat × Operand)) : (ps.map fun (i, x) => (i, f x)).toList = ps.toList.map fun q => (q.1, f q.2) := by
 simp
section
variable {P : Program} {env : Env} {e : Entry} {F : Blks} {w : World} {st : St} {V : Nat → Value} {fp : Nat → Blks} {fl : Blks} {a : Act} {o : Oper} {R : Type} {K : Unit → St → Option R} {res : R} {C : Cx R} {gh : Nat → Value} {next : Act → World → Prop} {Q : Exit → Act → World → Prop}
theorem zfva {t : Ty} {m : Md} {fq : Blks} : rep F w t m t.dflt (fun j => (zVaa t).toArray.getD j undef) fq :=
 zina fun j hj => by simp [Array.getD_eq_getD_getElem?, List.getD]
theorem zNqa {t : Ty} {n : Nat} {m : Md} {i : Nat} (hi : i < n) : rep F w t m ((List.replicate n t.dflt).getD i t.dflt) (fun j => (madeCells (zVaa t).toArray (n * t.size)).getD (i * t.size + j) undef) none' := by
 have e1 : (List.replicate n t.dflt).getD i t.dflt = t.dflt := by simp [List.getD, hi]
 rw [e1]
 refine zina fun j hj => ?_
 have hz : (zVaa t).toArray.size = t.size := by simp [zmaa]
 have := zJva (z := (zVaa t).toArray) (n := n) (i := i) (j := j) hi (by rw [hz]; exact hj)
 rw [hz] at this
 rw [this]
 simp [Array.getD_eq_getD_getElem?, List.getD]
theorem zswa {t : Ty} {n : Nat} {m : Md} {i : Nat} (hi : i < n) : rep F w t m ((List.replicate n t.dflt).getD i t.dflt) (fun j => (zVaa (.arr n t)).toArray.getD (i * t.size + j) undef) none' := by
 have e1 : (List.replicate n t.dflt).getD i t.dflt = t.dflt := by simp [List.getD, hi]
 rw [e1]
 refine zina fun j hj => ?_
 have := znta (zVaa t) undef n i j hi (by rw [zmaa]; exact hj)
 rw [zmaa] at this
 rw [← this]
 simp [zVaa, Array.getD_eq_getD_getElem?, List.getD]
theorem zUsa {T : TypeId} {ps : Array (Nat × Operand)} (hE : EnvTy P env) (ho : o.op = .build T ps) (hS : SR e F w st V fp none') (hA : AR env gh a V) (hN : Nxt env gh e K res next) (h : (evOp env o).run C st K = some res) : wpp P o a w next := by
 simp only [evOp, ho] at h
 have hrun : ∀ cs, P.built T (ps.map fun (i, x) => (i, a.eval x)).toList = some cs → ∀ w, (execOp a.eval o).run P w = .ok (.value (.agg cs)) w := by
  intro cs hb w
  simp only [execOp, ho, Sem.run_bind, Go.run_build w T _ cs hb, Result.andThen_ok, Sem.run_pure]
 split at h
 ·rename_i n t ht
  have hw := hE.ty _ _ ht
  obtain ⟨i, z, h1, h2, h3, h4, h5, h6⟩ := zFia hw
  obtain ⟨el, g1, g2⟩ := zFta hw
  obtain ⟨i', z', j1, j2, j3, j4, j5, j6⟩ := zFia g2
  have hz0 : (zVaa (.arr n t)).toArray.size = n * t.size := by simp [zmaa, Ty.size]
  obtain ⟨st', fp', fl', m', z1, cs', fs', k1, k2, k3, k4, k5, k6, k7, k8, k9⟩ := zLoa (n := n) (t := t) (fs := fun _ => none') (cs := (zVaa (.arr n t)).toArray) hA hS (by simp) ⟨fun _ _ _ _ hb => hb.elim⟩ (fun _ _ hb => hb.elim)
   (fun mm _ i hi => zswa hi)
   hz0 h
  obtain rfl : m' = some .s := k9 _ rfl
  have hb : P.built T (ps.map fun (i, x) => (i, a.eval x)).toList = some cs' := by
   simp only [Program.built, h1, g1, h4, j1, h6, zGqa, j2]
   exact k3
  refine endVp (fq := none') k2 hA hN k1 (fun _ => zdva rfl k8) ?_ (fun _ hb => hb.elim) (hrun _ hb)
  simp only [rep, Md.el]
  exact ⟨k4, fun _ => none', ⟨fun _ _ _ _ hb => hb.elim⟩, fun _ _ hb => hb.elim, fun i hi => rep_s (k7 .s (.inr rfl) i hi)⟩
 ·rename_i t _ ht
  split at h
  ·rename_i hs
   have hw := hE.ty _ _ ht
   obtain ⟨i, z, h1, h2, h3, h4, h5, h6⟩ := zFia hw
   obtain ⟨fs, pl, p1, p2, p3⟩ := zEta hw hs
   have hz0 : (zVaa t).toArray.size = t.size := by simp [zmaa]
   obtain ⟨st', fp', fl', m', z1, cs', fz', k1, k2, k3, k4, k5, k6⟩ := zKpa (t := t) (place := fun i => pl[i]?) (fz := none') (cs := (zVaa t).toArray) hA p3 hS zfva (fun _ hb => hb.elim) hz0 h
   have hb : P.built T (ps.map fun (i, x) => (i, a.eval x)).toList = some cs' := by
    simp only [Program.built, h1, p1, h4, p2, h6, zGqa]
    simpa using k3
   exact endVp (fq := fz') k2 hA hN k1 (fun _ => zdva (znva hs) k6) k4 k5 (hrun _ hb)
  ·simp [RM.run] at h
 ·simp [RM.run] at h
theorem zYqa {w' : World} {N : Nat} {cs : Array Value} {el et : TypeId} {fz : Nat × Nat} {t : Ty} {m : Md} {z : List t.I} {fs : Nat → Blks} {cap : Nat} (hnew : w'.heap[N]? = some (.cells cs el fz)) (hfz : fz.1 = fz.2) (hc : cs.size = cap * t.size) (hl : z.length ≤ cap) (hm : cap ≤ 2 ^ 63 - 1) (hd : Disj fs)
  (hn : ∀ i b, fs i b → b ≠ N) (hr : ∀ i, i < z.length → rep F w' t m (z.getD i t.dflt) (fun j => cs.getD (i * t.size + j) undef) (fs i)) : rep F w' (.sl et t) (.o m) z (cv (.slice (some ⟨N, 0, none⟩) z.length cap)) (fun b => b = N ∨ ∃ i, fs i b) := by
 simp only [rep]
 refine ⟨some ⟨N, 0, none⟩, cap, rfl, hl, hm, nofun, fun A hA => ?_⟩
 cases hA
 refine ⟨fun _ => rfl, .inl rfl, ⟨cs, el, fz, hnew, by simp [hc], fun _ => .inl hfz⟩, fs, hd, fun i b hb => ⟨.inr ⟨i, hb⟩, hn i b hb⟩, fun i hi => ?_⟩
 refine zjaa (fun j hj => ?_) (hr i hi)
 rw [zKja hnew, Nat.zero_add]
theorem zupa {T : TypeId} {n : Nat} {ps : Array (Nat × Operand)} (hE : EnvTy P env) (ho : o.op = .buildSlice T n ps) (hS : SR e F w st V fp none') (hA : AR env gh a V) (hN : Nxt env gh e K res next) (h : (evOp env o).run C st K = some res) : o.wp P a w next Q := by
 simp only [evOp, ho] at h
 split at h
 ·rename_i et t ht
  split at h
  ·rename_i hn
   simp only [Bool.and_eq_true] at hn
   have hn' := Nat.le_of_ble_eq_true hn.1
   have hn2 := Nat.le_of_ble_eq_true hn.2
   have hw := hE.ty _ _ ht
   obtain ⟨g1, g2⟩ := wt_sl hw
   obtain ⟨i', z', j1, j2, j3, j4, j5, j6⟩ := zFia g2
   have hz0 : (madeCells (zVaa t).toArray (n * t.size)).size = n * t.size := size_madeCells _ _
   obtain ⟨st', fp', fl', m', z1, cs', fs', k1, k2, k3, k4, k5, k6, k7, k8, k9⟩ := zLoa (n := n) (t := t) (fs := fun _ => none') (cs := madeCells (zVaa t).toArray (n * t.size)) hA hS (by simp) ⟨fun _ _ _ _ hb => hb.elim⟩ (fun _ _ hb => hb.elim)
    (fun mm _ i hi => zNqa hi) hz0 h
   have hrun : (execOp a.eval o).run P w = .ok (.value (.slice (some ⟨w.heap.size, 0, none⟩) n n)) (w.alloc (.cells cs' et)) := by
    have hnl : ¬ (n * t.size > 2 ^ 24) := by omega
    have k3' : Instr.fill (fun i => some (i * t.size, t.size)) (madeCells (zVaa t).toArray (n * t.size)) (ps.map fun (i, x) => (i, a.eval x)).toList = some cs' := by rw [zGqa]; exact k3
    simp only [execOp, ho, Instr.buildSlice, Sem.run_bind, run_underlying g1, Result.andThen_ok, zHca g2]
    rw [if_neg hnl]
    by_cases h0 : n * t.size = 0
    ·rw [if_pos h0]
     have hm : (Array.range (n * t.size)).map ((#[] : Array Value)[· % (#[] : Array Value).size]!) = madeCells (zVaa t).toArray (n * t.size) := by
      rw [h0]; simp [madeCells]
     simp only [Sem.run_bind, Sem.run_pure, Result.andThen_ok, hm, k3']
     rfl
    ·rw [if_neg h0]
     have hm : (Array.range (n * t.size)).map (z'.cells[· % z'.cells.size]!) = madeCells (zVaa t).toArray (n * t.size) := by
      rw [j6]; rfl
     have hzv := zhqa (w := w) g2
     rw [← j5] at hzv
     simp only [Sem.run_bind, Sem.run_pure, Result.andThen_ok, hzv, hm, k3']
     rfl
   have hnew := zhga (w := w) (ob := .cells cs' et)
   have hfin : ∀ m, (m' = none ∨ m' = some m) → (fin env o (.v (.sl et t) (.o m) z1)).run C st' K = some res → o.wp P a w next Q := by
    intro m hm h2
    refine endV (fq := fun b => b = w.heap.size ∨ ∃ i, fs' i b) (k2.push (fun b hb => zzca hb) (World.size_alloc w _) rfl ⟨rfl, rfl, rfl⟩) hA hN h2 (fun _ => zRra) ?_ (fun b hb => ?_) hrun
    ·have hr := zYqa (F := F) (w' := w.alloc (.cells cs' et)) (et := et) (m := m) (fs := fs') hnew rfl k8 (Nat.le_of_eq k4) (by omega) k5 (fun i b hb hc => absurd hc (Nat.ne_of_lt (k2.flH b (k6 i b hb))))
      (fun i hi => ziaa (fun _ hb => hb) (fun b hb => zzca (k2.inF b hb)) (fun b hb => zzca (k2.flH b (k6 i b hb))) (k7 m hm i (by rw [← k4]; exact hi)))
     rw [k4] at hr
     exact hr
    ·rcases hb with hb | ⟨i, hb⟩
     ·exact .inr hb
     ·exact .inl (k6 i b hb)
   split at k1
   ·exact hfin .s (.inl rfl) k1
   ·exact hfin _ (.inr rfl) k1
  ·simp [RM.run] at h
 ·simp [RM.run] at h
end
end Go.Trm
namespace Go.Trm
def rowL (c : Cells) (n : Nat) : List Value := (List.range n).map c
theorem zwsa {c : Cells} {n j : Nat} (h : j < n) : (rowL c n).getD j undef = c j := by simp [rowL, List.getD, h]
theorem zkqa {c : Cells} {n : Nat} : (rowL c n).length = n := by simp [rowL]
theorem zHoa {c : Cells} {n j : Nat} {v : Value} (h : (rowL c n)[j]? = some v) : j < n ∧ v = c j := by
 have hj : j < n := by
  have := (List.getElem?_eq_some_iff.1 h).1
  simpa [rowL] using this
 refine ⟨hj, ?_⟩
 simp [rowL, hj] at h
 exact h.symm
section
variable {P : Program} {env : Env} {e : Entry} {F : Blks} {w : World} {st : St} {V : Nat → Value} {fp : Nat → Blks} {fl : Blks} {a : Act} {o : Oper} {R : Type} {K : Unit → St → Option R} {res : R} {C : Cx R} {gh : Nat → Value} {next : Act → World → Prop} {Q : Exit → Act → World → Prop}
theorem zsqa {T : TypeId} {n c : Operand} (hE : EnvTy P env) (ho : o.op = .makeSlice T n c) (hS : SR e F w st V fp none') (hA : AR env gh a V) (hN : Nxt env gh e K res next) (h : (evOp env o).run C st K = some res) : o.wp P a w next Q := by
 simp only [evOp, ho] at h
 split at h
 ·rename_i et t ht
  have hw := hE.ty _ _ ht
  obtain ⟨g1, g2⟩ := wt_sl hw
  obtain ⟨i', z', j1, j2, j3, j4, j5, j6⟩ := zFia g2
  obtain ⟨k1, x, h1, e1, r1⟩ := zoea hS hA h
  obtain ⟨k2, y, h2, e2, r2⟩ := zoea hS hA h1
  split at h2
  ·simp only [RM.run] at h2
   cases hb : inR x y most with
   | false => rw [hb] at h2; cases h2
   | true =>
    rw [hb] at h2
    have hb' := zora hb
    unfold most at hb'
    have hbytes : (i'.bytes : Int) * y ≤ 281474976710656 := by
     have q1 : (i'.bytes : Int) ≤ 4096 := by omega
     have q2 : (0 : Int) ≤ (i'.bytes : Int) := by omega
     have q3 : (i'.bytes : Int) * y ≤ 4096 * 4294967296 := Int.mul_le_mul q1 hb'.2.2 (by omega) (by omega)
     omega
    have hr := run_make (P := P) w T et i' z' g1 j1 j4 .i64 .i64 x y hb'.1 hb'.2.1 hbytes (by omega)
    rw [j6, j2] at hr
    have hrun : (execOp a.eval o).run P w = .ok (.value (.slice (some ⟨w.heap.size, 0, none⟩) x.toNat y.toNat)) (w.alloc (.cells (madeCells (zVaa t).toArray (y.toNat * t.size)) et)) := by
     simp only [execOp, ho, e1, e2, Sem.run_bind, hr, Result.andThen_ok, Sem.run_pure]
    have hnew := zhga (w := w) (ob := .cells (madeCells (zVaa t).toArray (y.toNat * t.size)) et)
    have hrr := zYqa (F := F) (w' := w.alloc (.cells (madeCells (zVaa t).toArray (y.toNat * t.size)) et)) (et := et) (t := t) (m := t.ownE env.om) (z := List.replicate x.toNat t.dflt) (fs := fun _ => none') (cap := y.toNat) hnew rfl (size_madeCells _ _) (by simp; omega) (by omega)
     ⟨fun _ _ _ _ hb => hb.elim⟩ (fun _ _ hb => hb.elim) (fun i hi => by
      simp only [List.length_replicate] at hi
      have := zNqa (F := F) (w := w.alloc (.cells (madeCells (zVaa t).toArray (y.toNat * t.size)) et)) (t := t) (n := y.toNat) (m := t.ownE env.om) (i := i) (by omega)
      have e3 : (List.replicate x.toNat t.dflt).getD i t.dflt = (List.replicate y.toNat t.dflt).getD i t.dflt := by
       have : i < y.toNat := by omega
       simp [List.getD, hi, this]
      rw [e3]
      exact this)
    rw [List.length_replicate] at hrr
    exact endV (hS.push (fun b hb => zzca hb) (World.size_alloc w _) rfl ⟨rfl, rfl, rfl⟩) hA hN h2 (fun _ => zRra) hrr (fun b hb => by
     rcases hb with hb | ⟨_, hb⟩
     ·exact .inr hb
     ·exact hb.elim) hrun
  ·simp [RM.run] at h2
 ·simp [RM.run] at h
structure zXpa (P : Program) (F : Blks) (w : World) (t : Ty) (m : Md) (U : TypeId) (x : Value) (y : List t.I) (fq : Blks) : Prop where
 ex : ∃ news : List Value, _root_.Go.Src P t.size U x y.length news w ∧ ∃ fs : Nat → Blks, Disj fs ∧ (∀ i b, fs i b → fq b) ∧ ∀ i, i < y.length → rep F w t m (y.getD i t.dflt) (fun j => news.getD (i * t.size + j) undef) (fs i)
theorem zWoa {i j n s : Nat} (hi : i < n) (hj : j < s) : i * s + j < n * s := by
 calc i * s + j < i * s + s := by omega
  _ = (i + 1) * s := by rw [Nat.add_mul, Nat.one_mul]
  _ ≤ n * s := Nat.mul_le_mul_right _ hi
theorem zdla {β : Type} {l l' : List β} {i : Nat} {d : β} : (l ++ l').getD i d = if i < l.length then l.getD i d else l'.getD (i - l.length) d := by
 simp only [List.getD_eq_getElem?_getD, List.getElem?_append]
 split <;> rfl
theorem zzua {T U ty : TypeId} {et : TypeId} {t : Ty} {m : Md} {y y' : List t.I} {v x : Value} {f1 f2 : Blks} (hw : wt P (.sl et t) T = true) (hS : SR e F w st V fp fl) (hv : isV (.sl et t) v) (hr : rep F w (.sl et t) (.o m) y (cv v) f1) (hb : zXpa P F w t m U x y' f2)
  (h1 : ∀ b, f1 b → fl b) (h2 : ∀ b, f2 b → fl b) (h12 : ∀ b, f1 b → ¬ f2 b) (hle : y.length + y'.length ≤ most) :
  ∃ v' w' fl' fq, (Builtin.append_ #[T, U] ty #[v, x]).run P w = .ok v' w' ∧ SR e F w' st V fp fl' ∧ isV (.sl et t) v' ∧ rep F w' (.sl et t) (.o m) (y ++ y') (cv v') fq ∧ (∀ b, fq b → fl' b) := by
 obtain ⟨g1, g2⟩ := wt_sl hw
 obtain ⟨i', z', j1, j2, j3, j4, j5, j6⟩ := zFia g2
 obtain ⟨news, hsrc, fs2, d2, s2, r2⟩ := hb.ex
 rw [← j2] at hsrc
 have hnl : news.length = y'.length * t.size := by rw [hsrc.newsLen, j2]
 have hval := zNta hv
 simp only [rep] at hr
 obtain ⟨A, cap, q1, q2, q3, q4, q5⟩ := hr
 have hve : v = .slice A y.length cap := hval.trans q1
 unfold most at hle
 by_cases hroom : y.length + y'.length ≤ cap
 ·by_cases hc0 : cap = 0
  ·have hy0 : y = [] := List.eq_nil_of_length_eq_zero (by omega)
   have hy0' : y' = [] := List.eq_nil_of_length_eq_zero (by omega)
   subst hy0
   subst hy0'
   have hn0 : news = [] := List.eq_nil_of_length_eq_zero (by rw [hnl]; simp)
   subst hn0
   have hrun := run_append_nothing (P := P) w T U ty et i' g1 j1 A 0 cap (by omega) x hsrc
   refine ⟨v, w, fl, f1, by rw [hve]; exact hrun, hS, hv, ?_, h1⟩
   simp only [rep]
   exact ⟨A, cap, q1, q2, q3, q4, q5⟩
  cases A with
  | none => exact absurd (q4 rfl) hc0
  | some A =>
   obtain ⟨hsp, p1, p2, fs1, d1, s1, r1⟩ := q5 A rfl
   replace hsp := hsp (by omega)
   obtain ⟨b, k, sp⟩ := A
   simp only at hsp
   subst hsp
   simp only at p1 p2 s1 r1
   have hoff : k + y.length * t.size + news.length ≤ k + cap * t.size := by
    rw [hnl]
    have : (y.length + y'.length) * t.size ≤ cap * t.size := Nat.mul_le_mul_right _ hroom
    rw [Nat.add_mul] at this
    omega
   have hrun := run_append_room_src (P := P) w T U ty et i' g1 j1 b k y.length cap x y'.length news hsrc hroom
    (fun j hj => by rw [j2, zqja p2 (by omega)]; rfl) (fun j hj => by rw [j2]; exact zvna p2 (by omega))
   rw [j2] at hrun
   obtain ⟨cs, el, fz, c1, c2, c3⟩ := p2
   obtain ⟨cs', k1, k2, k3, k4, k5, k6⟩ := zAea (vs := news) (o := k + y.length * t.size) c1 (by omega)
   have hsame : ∀ b', b' ≠ b → Same w (w.setCells b (k + y.length * t.size) news) b' := k5
   have hbF : ∀ b', F b' → b' ≠ b := fun b' hb' hc => hS.flF b (h1 b p1) (hc ▸ hb')
   refine ⟨_, _, fl, fun b => f1 b ∨ f2 b, by rw [hve]; exact hrun, hS.world (fun b' _ hb' => hsame b' (fun hc => hb' (hc ▸ h1 b p1))) ⟨zpka _ _ _ _, Nat.le_of_eq k6.symm⟩ (fun b' hb' => ⟨.inl hb', by rw [k6]; exact hS.flH b' hb'⟩), zRra, ?_, fun b hb => by
    rcases hb with hb | hb
    ·exact h1 b hb
    ·exact h2 b hb⟩
   simp only [rep]
   refine ⟨some ⟨b, k, none⟩, cap, by rw [List.length_append]; rfl, by rw [List.length_append]; exact hroom, q3, nofun, fun A hA => ?_⟩
   cases hA
   refine ⟨fun _ => rfl, .inl p1, ⟨cs', el, fz, k1, by rw [k2]; exact c2, fun hw => by rw [k2]; exact c3 hw⟩, fun i b' => (i < y.length ∧ fs1 i b') ∨ (y.length ≤ i ∧ fs2 (i - y.length) b'), ⟨fun i j hij b' hb hb' => ?_⟩, fun i b' hb' => ?_, fun i hi => ?_⟩
   ·rcases hb with ⟨u1, hb⟩ | ⟨u1, hb⟩ <;> rcases hb' with ⟨u2, hb'⟩ | ⟨u2, hb'⟩
    ·exact d1.disj i j hij b' hb hb'
    ·exact h12 b' (s1 i b' hb).1 (s2 _ b' hb')
    ·exact h12 b' (s1 j b' hb').1 (s2 _ b' hb)
    ·exact d2.disj _ _ (by omega) b' hb hb'
   ·rcases hb' with ⟨_, hb'⟩ | ⟨_, hb'⟩
    ·exact ⟨.inl (s1 i b' hb').1, (s1 i b' hb').2⟩
    ·exact ⟨.inr (s2 _ b' hb'), fun hc => h12 b p1 (by have h9 := s2 _ b' hb'; rw [hc] at h9; exact h9)⟩
   ·rw [zdla]
    rw [List.length_append] at hi
    split
    ·rename_i hlt
     refine zFga (fun b' hb' => .inl ⟨hlt, hb'⟩) (zjaa (fun j hj => ?_) (ziaa (fun _ hb => hb) (fun b' hb' => hsame b' (hbF b' hb')) (fun b' hb' => hsame b' (s1 i b' hb').2) (r1 i hlt)))
     rw [zKja k1, zKja c1]
     have := zWoa hlt hj
     rw [k4 _ (.inl (by simp only; omega))]
    ·rename_i hge
     have hi2 : i - y.length < y'.length := by omega
     refine zFga (fun b' hb' => .inr ⟨by omega, hb'⟩) (zjaa (fun j hj => ?_) (ziaa (fun _ hb => hb) (fun b' hb' => hsame b' (hbF b' hb')) (fun b' hb' => hsame b' (fun hc => h12 b p1 (hc ▸ s2 _ b' hb'))) (r2 (i - y.length) hi2)))
     have := zWoa hi2 hj
     have e1 : k + i * t.size + j = k + y.length * t.size + ((i - y.length) * t.size + j) := by
      have : i * t.size = y.length * t.size + (i - y.length) * t.size := by rw [← Nat.add_mul]; congr 1; omega
      omega
     rw [zKja k1, e1, k3 _ (by rw [hnl]; exact this)]
 ·have hgrow : cap < y.length + y'.length := by omega
  have hfit : Builtin.nextslicecap (y.length + y'.length) cap * i'.bytes ≤ 281474976710656 := growslice_fits hgrow (by
   have : (y.length + y'.length) * i'.bytes ≤ 4294967296 * 4096 := Nat.mul_le_mul hle j3
   omega)
  have key : ∃ olds : List Value, olds.length = y.length * t.size ∧ (Builtin.firstCells i'.size y.length (.slice A y.length cap)).run P w.drew = .ok olds.toArray w.drew ∧ ∃ fs1 : Nat → Blks, Disj fs1 ∧ (∀ i b, fs1 i b → f1 b) ∧
    ∀ i, i < y.length → rep F w t m (y.getD i t.dflt) (fun j => olds.getD (i * t.size + j) undef) (fs1 i) := by
   cases A with
   | none =>
    have hc0 := q4 rfl
    have hy0 : y = [] := List.eq_nil_of_length_eq_zero (by omega)
    subst hy0
    exact ⟨[], by simp, run_firstCells_none w.drew _ _ _ _, fun _ => none', ⟨fun _ _ _ _ hb => hb.elim⟩, fun _ _ hb => hb.elim, fun i hi => by simp at hi⟩
   | some A =>
    by_cases hc0 : cap = 0
    ·have hy0 : y = [] := List.eq_nil_of_length_eq_zero (by omega)
     subst hy0
     exact ⟨[], by simp, run_firstCells_some w.drew _ _ _ _ _ [] (by simp) (fun j v hj => by simp at hj), fun _ => none', ⟨fun _ _ _ _ hb => hb.elim⟩, fun _ _ hb => hb.elim, fun i hi => by simp at hi⟩
    obtain ⟨hsp, p1, p2, fs1, d1, s1, r1⟩ := q5 A rfl
    replace hsp := hsp (by omega)
    obtain ⟨b, k, sp⟩ := A
    simp only at hsp
    subst hsp
    simp only at p1 p2 s1 r1
    refine ⟨rowL (rowW w b k) (y.length * t.size), zkqa, ?_, fs1, d1, fun i b hb => (s1 i b hb).1, fun i hi => zjaa (fun j hj => ?_) (r1 i hi)⟩
    ·rw [j2]
     refine run_firstCells_some w.drew _ _ _ _ _ _ zkqa fun j v hj => ?_
     obtain ⟨hj', rfl⟩ := zHoa hj
     rw [World.cell?_drew, zJda, zqja p2 (by
      have : y.length * t.size ≤ cap * t.size := Nat.mul_le_mul_right _ q2
      omega), ← zfba]
    ·rw [zwsa (zWoa hi hj), zfba w b k, zfba w b (k + i * t.size), Nat.add_assoc]
  obtain ⟨olds, ol, hold, fs1, d1, s1, r1⟩ := key
  have hrun := run_append_grow_src (P := P) w T U ty et i' z' g1 j1 j4 A y.length cap olds hold x y'.length news hsrc hgrow (by omega) hfit
  have hgc := grownCap_ge w (y.length + y'.length) cap et
  have hmx := grownCap_le_maxLen w (y.length + y'.length) cap et (by unfold maxLen; omega)
  generalize hcsd : (olds ++ news).toArray ++ Builtin.zeroCells z'.cells (grownCap w (y.length + y'.length) cap et - (y.length + y'.length)) = cs at hrun
  have hcs : cs.size = grownCap w (y.length + y'.length) cap et * t.size := by
   rw [← hcsd]
   have : (Builtin.zeroCells z'.cells (grownCap w (y.length + y'.length) cap et - (y.length + y'.length))).size = (grownCap w (y.length + y'.length) cap et - (y.length + y'.length)) * t.size := by
    simp [Builtin.zeroCells, j6, zmaa]
   simp only [Array.size_append, this, List.size_toArray, List.length_append, ol, hnl]
   rw [← Nat.add_mul, ← Nat.add_mul]
   congr 1
   omega
  have hget1 : ∀ q, q < y.length * t.size → cs.getD q undef = olds.getD q undef := by
   intro q hq
   rw [← hcsd]
   simp only [Array.getD_eq_getD_getElem?, List.getD_eq_getElem?_getD]
   rw [Array.getElem?_append_left (by simp [ol]; omega)]
   simp only [List.getElem?_toArray]
   rw [List.getElem?_append_left (by rw [ol]; exact hq)]
  have hget2 : ∀ q, q < y'.length * t.size → cs.getD (y.length * t.size + q) undef = news.getD q undef := by
   intro q hq
   rw [← hcsd]
   simp only [Array.getD_eq_getD_getElem?, List.getD_eq_getElem?_getD]
   rw [Array.getElem?_append_left (by simp [ol, hnl]; omega)]
   simp only [List.getElem?_toArray]
   rw [List.getElem?_append_right (by rw [ol]; omega), ol, Nat.add_sub_cancel_left]
  have hnew := zhga (w := w.drew) (ob := .cells cs et)
  have hold' : ∀ b, b < w.heap.size → Same w (w.drew.alloc (.cells cs et)) b := fun b hb => zzca (w := w.drew) hb
  have hrr := zYqa (F := F) (w' := w.drew.alloc (.cells cs et)) (et := et) (t := t) (m := m) (z := y ++ y') (fs := fun i b' => (i < y.length ∧ fs1 i b') ∨ (y.length ≤ i ∧ fs2 (i - y.length) b')) hnew rfl hcs (by rw [List.length_append]; exact hgc) hmx
   ⟨fun i j hij b' hb hb' => by
    rcases hb with ⟨u1, hb⟩ | ⟨u1, hb⟩ <;> rcases hb' with ⟨u2, hb'⟩ | ⟨u2, hb'⟩
    ·exact d1.disj i j hij b' hb hb'
    ·exact h12 b' (s1 i b' hb) (s2 _ b' hb')
    ·exact h12 b' (s1 j b' hb') (s2 _ b' hb)
    ·exact d2.disj _ _ (by omega) b' hb hb'⟩
   (fun i b' hb' hc => by
    have : b' < w.heap.size := by
     rcases hb' with ⟨_, hb'⟩ | ⟨_, hb'⟩
     ·exact hS.flH _ (h1 _ (s1 _ _ hb'))
     ·exact hS.flH _ (h2 _ (s2 _ _ hb'))
    exact absurd hc (Nat.ne_of_lt this))
   (fun i hi => by
    rw [List.length_append] at hi
    rw [zdla]
    split
    ·rename_i hlt
     refine zFga (fun b' hb' => .inl ⟨hlt, hb'⟩) (zjaa (fun j hj => (hget1 _ (zWoa hlt hj)).symm) (ziaa (fun _ hb => hb) (fun b' hb' => hold' b' (hS.inF b' hb')) (fun b' hb' => hold' b' (hS.flH _ (h1 _ (s1 _ _ hb')))) (r1 i hlt)))
    ·rename_i hge
     have hi2 : i - y.length < y'.length := by omega
     refine zFga (fun b' hb' => .inr ⟨by omega, hb'⟩) (zjaa (fun j hj => ?_) (ziaa (fun _ hb => hb) (fun b' hb' => hold' b' (hS.inF b' hb')) (fun b' hb' => hold' b' (hS.flH _ (h2 _ (s2 _ _ hb')))) (r2 (i - y.length) hi2)))
     have e1 : i * t.size + j = y.length * t.size + ((i - y.length) * t.size + j) := by
      have : i * t.size = y.length * t.size + (i - y.length) * t.size := by rw [← Nat.add_mul]; congr 1; omega
      omega
     rw [e1, hget2 _ (zWoa hi2 hj)])
  rw [List.length_append] at hrr
  refine ⟨_, _, _, _, by rw [hve]; exact hrun, hS.push (fun b hb => zzca (w := w.drew) hb) (World.size_alloc w.drew _) rfl ⟨rfl, rfl, rfl⟩, zRra, hrr, fun b hb => ?_⟩
  rcases hb with hb | ⟨i, ⟨_, hb⟩ | ⟨_, hb⟩⟩
  ·exact .inr hb
  ·exact .inl (h1 _ (s1 _ _ hb))
  ·exact .inl (h2 _ (s2 _ _ hb))
end
end Go.Trm
namespace Go.Trm
theorem zvva {F : Blks} {w : World} : ∀ {t : Ty} {m : Md} {x : t.I} {c : Cells} {fq : Blks}, t.flat = true → m.noJ = true → rep F w t m x c fq → rep F w t .s x c none' := by
 intro t
 induction t with
 | sl e t ih => intro m x c fq h; cases h
 | ptr e t ih => intro m x c fq h; cases h
 | pair a b iha ihb =>
  intro m x c fq h hm hr
  simp only [Ty.flat, Bool.and_eq_true] at h
  obtain ⟨fa, fb, h1, h2, h3, ra, rb⟩ := zpda hr
  have hm' : m.fst.noJ = true ∧ m.snd.noJ = true := by
   cases m <;> simp only [Md.noJ, Md.fst, Md.snd, Bool.and_eq_true, Bool.false_eq_true] at hm ⊢ <;> first | exact ⟨trivial, trivial⟩ | exact hm | exact ⟨hm, hm⟩
  simp only [rep, Md.fst, Md.snd]
  exact ⟨_, _, fun _ h => h, fun _ h => h, fun _ h => h.elim, iha h.1 hm'.1 ra, ihb h.2 hm'.2 rb⟩
 | arr n t ih =>
  intro m x c fq h hm hr
  have hm' : m.el.noJ = true := by
   cases m <;> first | exact hm | cases hm
  have hj' : m ≠ .j := by rintro rfl; simp [Md.noJ] at hm
  have key : List.length (x : List t.I) = n ∧ ∃ fs : Nat → Blks, ∀ i, i < n → rep F w t m.el (List.getD (x : List t.I) i t.dflt) (fun j => c (i * t.size + j)) (fs i) := by
   cases m with
   | j => exact absurd rfl hj'
   | _ => simp only [rep] at hr; obtain ⟨hn, fs, _, h2, r⟩ := hr; exact ⟨hn, fs, r⟩
  obtain ⟨hn, fs, r⟩ := key
  simp only [rep, Md.el]
  exact ⟨hn, fun _ _ => False, ⟨fun _ _ _ _ h => h.elim⟩, fun _ _ h => h.elim, fun i hi => ih h hm' (r i hi)⟩
 | _ => intro m x c fq h hm hr; cases m <;> simp only [rep] at hr ⊢ <;> first | exact hr | cases hm
section
variable {P : Program} {env : Env} {e : Entry} {F : Blks} {w : World} {st : St} {V : Nat → Value} {fp : Nat → Blks} {fl : Blks} {a : Act} {o : Oper} {R : Type} {K : Unit → St → Option R} {res : R} {C : Cx R} {gh : Nat → Value} {next : Act → World → Prop} {Q : Exit → Act → World → Prop}
theorem zepa {U : TypeId} {et : TypeId} {t : Ty} {mu m : Md} {y : List t.I} {val : Value} {fq : Blks} (hU : P.underlying U = some (.slice et)) (hv : isV (.sl et t) val) (hrep : rep F w (.sl et t) mu y (cv val) fq) (hnj : mu.noJ = true)
  (hel : ∀ (x : t.I) (c : Cells) (f : Blks), rep F w t mu.el x c f → rep F w t m x c f) : zXpa P F w t m U val y fq := by
 have hval := zNta hv
 have hnil : ∀ cap, cv val 0 = .slice none y.length cap → y = [] → zXpa P F w t m U val y fq := by
  rintro cap h rfl
  refine ⟨[], ?_, fun _ => none', ⟨fun _ _ _ _ hb => hb.elim⟩, fun _ _ hb => hb.elim, fun i hi => by simp at hi⟩
  rw [hval, h]
  exact Src.ofNil w hU cap
 have hnil2 : ∀ A cap, cv val 0 = .slice (some A) y.length cap → y = [] → zXpa P F w t m U val y fq := by
  rintro A cap h rfl
  refine ⟨[], ?_, fun _ => none', ⟨fun _ _ _ _ hb => hb.elim⟩, fun _ _ hb => hb.elim, fun i hi => by simp at hi⟩
  rw [hval, h]
  exact Src.ofSlice w hU A 0 cap [] (by simp) (fun j u hj => by simp at hj) (fun u hu => by simp at hu)
 have hsome : ∀ (b k cap : Nat) (wr : Bool) (fs : Nat → Blks), cv val 0 = .slice (some ⟨b, k, none⟩) y.length cap → (y.length * t.size = 0 ∨ zIca w b (k + y.length * t.size) wr) → Disj fs → (∀ i b, fs i b → fq b) →
   (∀ i, i < y.length → rep F w t mu.el (y.getD i t.dflt) (rowW w b (k + i * t.size)) (fs i)) → zXpa P F w t m U val y fq := by
  intro b k cap wr fs h hh hd hs hr
  have hnj' : mu.el.noJ = true := by cases mu <;> first | exact hnj | cases hnj
  refine ⟨rowL (rowW w b k) (y.length * t.size), ?_, fs, hd, hs, fun i hi => hel _ _ _ (zjaa (fun j hj => ?_) (hr i hi))⟩
  ·rw [hval, h]
   refine Src.ofSlice w hU _ _ _ _ zkqa (fun j u hj => ?_) (fun u hu => ?_)
   ·obtain ⟨hj', rfl⟩ := zHoa hj
    rcases hh with hh | hh
    ·omega
    ·rw [zJda, zqja hh (by omega), ← zfba]
   ·obtain ⟨j, hj⟩ := List.mem_iff_getElem?.1 hu
    obtain ⟨hj', rfl⟩ := zHoa hj
    have hs0 : 0 < t.size := by
     rcases Nat.eq_zero_or_pos t.size with h0 | h0
     ·rw [h0] at hj'; simp at hj'
     ·exact h0
    have h1 : j / t.size < y.length := Nat.div_lt_of_lt_mul (by rwa [Nat.mul_comm])
    have h2 := zFsa (hr _ h1) hnj' (j % t.size) (Nat.mod_lt _ hs0)
    rw [zfba, Nat.add_assoc, Nat.mul_comm, Nat.div_add_mod, ← zfba] at h2
    exact h2
  ·rw [zwsa (zWoa hi hj), zfba w b k, zfba w b (k + i * t.size), Nat.add_assoc]
 cases mu with
 | j => cases hnj
 | p _ _ =>
  simp only [rep] at hrep
  obtain ⟨A, cap, q1, q2, q3, q4, q5⟩ := hrep
  cases A with
  | none => exact hnil cap q1 (List.eq_nil_of_length_eq_zero (by have := q4 rfl; omega))
  | some A => exact (q5 A rfl).2.elim
 | s =>
  simp only [rep] at hrep
  obtain ⟨A, cap, q1, q2, q3, q4, q5⟩ := hrep
  cases A with
  | none => exact hnil cap q1 (List.eq_nil_of_length_eq_zero (by have := q4 rfl; omega))
  | some A =>
   obtain ⟨hsp, q6, q7⟩ := q5 A rfl
   by_cases hc0 : cap = 0
   ·exact hnil2 A cap q1 (List.eq_nil_of_length_eq_zero (by omega))
   replace hsp := hsp (by omega)
   obtain ⟨b, k, sp⟩ := A
   simp only at hsp
   subst hsp
   exact hsome b k cap false (fun _ => none') q1 (q6.imp id (·.2)) ⟨fun _ _ _ _ hb => hb.elim⟩ (fun _ _ hb => hb.elim) q7
 | o mm =>
  simp only [rep] at hrep
  obtain ⟨A, cap, q1, q2, q3, q4, q5⟩ := hrep
  cases A with
  | none => exact hnil cap q1 (List.eq_nil_of_length_eq_zero (by have := q4 rfl; omega))
  | some A =>
   obtain ⟨hsp, q6, q7, fs, q8, q9, q10⟩ := q5 A rfl
   by_cases hc0 : cap = 0
   ·exact hnil2 A cap q1 (List.eq_nil_of_length_eq_zero (by omega))
   replace hsp := hsp (by omega)
   obtain ⟨b, k, sp⟩ := A
   simp only at hsp
   subst hsp
   refine hsome b k cap false fs q1 (.inr ?_) q8 (fun i b hb => (q9 i b hb).1) q10
   obtain ⟨cs, el, fz, z1, z2, _⟩ := q7
   have : y.length * t.size ≤ cap * t.size := Nat.mul_le_mul_right _ q2
   exact ⟨cs, el, fz, z1, by simp only at z2; omega, nofun⟩
theorem zzta {U : TypeId} {m : Md} {y : List UInt8} (hU : P.underlying U = some .string) : zXpa P F w (.int .u8) m U (.string ⟨y.toArray⟩) (nums y) none' := by
 have hs := Src.ofString (P := P) w hU ⟨y.toArray⟩
 rw [zcna] at hs
 have hl : (nums y).length = y.length := by simp [nums]
 rw [← hl] at hs
 refine ⟨byteCells ⟨y.toArray⟩, hs, fun _ => none', ⟨fun _ _ _ _ hb => hb.elim⟩, fun _ _ hb => hb.elim, fun i hi => ?_⟩
 have hi' : i < y.length := by rw [← hl]; exact hi
 have e1 : (byteCells ⟨y.toArray⟩).getD (i * Ty.size (.int .u8) + 0) undef = .int .u8 ((nums y).getD i (0 : Int)) := by
  simp [byteCells, nums, Ty.size, List.getD, hi']
 have : ((nums y).getD i (0 : Int)) = ((y.getD i 0).toNat : Int) := by simp [nums, List.getD, hi']
 have h4 : ((y.getD i (0 : UInt8)).toNat) < 256 := UInt8.toNat_lt _
 have e3 : IntKind.u8.min = 0 := by decide
 have e4 : IntKind.u8.max = 255 := by decide
 have h5 : IntKind.u8.has ((nums y).getD i (0 : Int)) := by
  rw [this]
  constructor
  ·rw [e3]; omega
  ·rw [e4]; omega
 cases m with
 | j => exact rep_j
 | _ => simp only [rep]; exact ⟨e1, h5⟩
theorem zGsa {α : Type} {Kk : α → St → Option R} {U : TypeId} {z : Operand} {et : TypeId} {t : Ty} {m : Md} {k : List t.I → RM α} (hE : EnvTy P env) (hS : SR e F w st V fp fl) (hA : AR env gh a V) (hm : m.noJ = true) (h : (zwva env U z et t m k).run C st Kk = some res) :
  ∃ y st' fp' fl' fq F', (k y).run C st' Kk = some res ∧ SR e F' w st' V fp' fl' ∧ (∀ b, F b → F' b) ∧ zXpa P F' w t m U (a.eval z) y fq ∧ (∀ b, fq b → fl' b) ∧ (∀ b, fl b → fl' b) ∧ (∀ b, fq b → ¬ fl b) := by
 unfold zwva at h
 obtain ⟨u, mu, y, src, h1, hd, _⟩ := zWca hS hA h
 obtain ⟨hv, hmu, fq0, hrep, hfq⟩ := hd.rep hS
 cases u with
 | sl e' u =>
  dsimp only at h1
  split at h1
  ·rename_i y' hT hc
   obtain ⟨eu, hy⟩ := zhba hc
   cases eu
   simp only at hy
   subst hy
   have hU := (wt_sl (Env.is_ok hE hT)).1
   have hnone : ∀ {mm : Md}, (∀ (x : t.I) (c : Cells) (f : Blks), rep F w t mu.el x c f → rep F w t mm x c none') → mu.noJ = true → zXpa P F w t mm U (a.eval z) y none' := by
    intro mm hel hnj
    obtain ⟨news, hsrc, fs, b1, b2, b3⟩ := (zepa (m := mu.el) hU hv hrep hnj (fun _ _ _ h => h)).ex
    exact ⟨news, hsrc, fun _ => none', ⟨fun _ _ _ _ hb => hb.elim⟩, fun _ _ hb => hb.elim, fun i hi => hel _ _ _ (b3 i hi)⟩
   split at h1
   ·split at h1
    ·exact ⟨y, st, fp, fl, none', F, h1, hS, fun _ hb => hb, hnone (fun _ _ _ h => rep_s h) rfl, fun _ hb => hb.elim, fun _ hb => hb, fun _ hb => hb.elim⟩
    ·exact ⟨y, st, fp, fl, none', F, h1, hS, fun _ hb => hb, hnone (fun _ _ _ h => rep_s h) rfl, fun _ hb => hb.elim, fun _ hb => hb, fun _ hb => hb.elim⟩
    ·split at h1
     ·rename_i hf
      simp only [Bool.and_eq_true] at hf
      have hnj' : mu.el.noJ = true := by
       have := hf.2
       cases mu <;> first | exact this | cases this
      exact ⟨y, st, fp, fl, none', F, h1, hS, fun _ hb => hb, hnone (fun _ _ _ h => zvva hf.1 hnj' h) hf.2, fun _ hb => hb.elim, fun _ hb => hb, fun _ hb => hb.elim⟩
     ·split at h1
      ·rename_i q hnj
       obtain ⟨st1, fp1, F1, h2, hS1, hF1, hv1, hrep1⟩ := znha hS hd nofun h1
       exact ⟨y, st1, fp1, fl, none', F1, h2, hS1, hF1, zepa hU hv1 hrep1 rfl (fun _ _ _ h => rep_s h), fun _ hb => hb.elim, fun _ hb => hb, fun _ hb => hb.elim⟩
      ·simp [RM.run] at h1
   ·split at h1
    ·rename_i mu'
     split at h1
     ·rename_i he
      obtain ⟨st1, fp1, fq, F1, h2, hS1, hF1, hv1, hm1, hrep1, hfl, _⟩ := zOma (m' := .o m) hS hd he h1
      exact ⟨y, st1, fp1, _, fq, F1, h2, hS1, hF1, zepa hU hv1 hrep1 hm (fun _ _ _ h => h), fun _ hb => .inr hb, fun _ hb => .inl hb, hfl⟩
     ·simp [RM.run] at h1
    ·simp [RM.run] at h1
  ·simp [RM.run] at h1
 | str =>
  dsimp only at h1
  split at h1
  ·rename_i y' hT hc
   obtain ⟨eu, hy⟩ := zhba hc
   cases eu
   simp only at hy
   subst hy
   have hval := (zDga hv hmu hrep).1
   exact ⟨nums y, st, fp, fl, none', F, h1, hS, fun _ hb => hb, by rw [hval]; exact zzta (zipa (Env.is_ok hE hT)), fun _ hb => hb.elim, fun _ hb => hb, fun _ hb => hb.elim⟩
  ·simp [RM.run] at h1
 | _ => simp [RM.run] at h1
theorem zDxa {α : Type} {Kk : α → St → Option R} {st1 : St} {fp1 : Nat → Blks} {fl1 : Blks} {val : Value} {t : Ty} {m : Md} {y : t.I} {src : Src} {k : RM α} {f1 : Blks} (hS : SR e F w st V fp fl) (hd : DataX F w st V val t m y src) (hS1 : SR e F w st1 V fp1 fl1) (hrep : rep F w t m y (cv val) f1)
  (h : (hdr src t y k).run C st1 Kk = some res) : ∃ st2 fp2, k.run C st2 Kk = some res ∧ SR e F w st2 V fp2 fl1 := by
 unfold hdr at h
 split at h
 ·rename_i r p
  split at h
  ·split at h
   ·rename_i et u y
    simp only [setS, RM.run] at h
    obtain ⟨hm, t0, m0, x0, h1, h2, h3, h4, c', ad, h5, h6⟩ := hd
    simp only [rs, Option.some.injEq, Prod.mk.injEq] at h5
    simp only [getP, Option.some.injEq] at h2
    cases h2
    obtain ⟨_, hc', _⟩ := h5
    have hsv := hS.sv r
    rw [h1] at hsv
    have hVr : V r = val := by
     rw [h6, ← eq_of_heq (heq_of_eq hc')]
     exact hsv.1 hm
    rw [← hVr] at hrep
    have hgen : ∀ us : List (Ty.I .unit), us.length = List.length (y : List u.I) → rep F w (.sl et .unit) .s us (cv (V r)) (fun _ => False) := by
     intro us hus
     cases m with
     | j => exact absurd rfl hm
     | p a b =>
      simp only [rep] at hrep ⊢
      obtain ⟨A, cap, q1, q2, q3, q4, q5⟩ := hrep
      exact ⟨A, cap, by rw [hus]; exact q1, by rw [hus]; exact q2, q3, q4, fun a ha => (q5 a ha).2.elim⟩
     | s =>
      simp only [rep] at hrep ⊢
      obtain ⟨A, cap, q1, q2, q3, q4, q5⟩ := hrep
      exact ⟨A, cap, by rw [hus]; exact q1, by rw [hus]; exact q2, q3, q4, fun a ha => ⟨(q5 a ha).1, .inl (by simp [Ty.size]), fun i _ => trivial⟩⟩
     | o m1 =>
      simp only [rep] at hrep ⊢
      obtain ⟨A, cap, q1, q2, q3, q4, q5⟩ := hrep
      exact ⟨A, cap, by rw [hus]; exact q1, by rw [hus]; exact q2, q3, q4, fun a ha => ⟨(q5 a ha).1, .inl (by simp [Ty.size]), fun i _ => trivial⟩⟩
    have hrep2 : rep F w (.sl et .unit) .s (List.map (fun _ => ()) (y : List u.I)) (cv (V r)) (fun _ => False) := hgen _ (List.length_map _)
    have hS2 := hS1.fillV (d := r) (v := V r) (fq := fun _ => False) (fl' := fl1) (fun _ => rfl) (fun _ => (show isV (.sl et .unit) (V r) from hsv.1 hm)) hrep2 (fun _ hb => hb.elim) (fun b hb => ⟨hb, fun h => h⟩)
    rw [zoka] at hS2
    exact ⟨_, _, h, hS2⟩
   ·exact ⟨st1, fp1, h, hS1⟩
  ·exact ⟨st1, fp1, h, hS1⟩
 ·exact ⟨st1, fp1, h, hS1⟩
theorem zbwa {α : Type} {Kk : α → St → Option R} {st1 : St} {fp1 : Nat → Blks} {fl1 : Blks} {val : Value} {t : Ty} {m : Md} {y : t.I} {src : Src} {k : RM α} {f1 : Blks} {sv : SV} (hS : SR e F w st V fp fl) (hd : (∀ r p l h, sv ≠ .sub r p l h) → DataX F w st V val t m y src) (hS1 : SR e F w st1 V fp1 fl1) (hrep : rep F w t m y (cv val) f1)
  (h : (hdrV sv src t y k).run C st1 Kk = some res) : ∃ st2 fp2, k.run C st2 Kk = some res ∧ SR e F w st2 V fp2 fl1 := by
 unfold hdrV at h
 split at h
 ·exact ⟨st1, fp1, h, hS1⟩
 ·rename_i hn
  exact zDxa hS (hd hn) hS1 hrep h
theorem zaua {T U : TypeId} {x z : Operand} {c : Call} (hE : EnvTy P env) (ho : o.op = .call c) (hc : c.callee = .builtin .append) (h1 : c.args.toList = [x, z]) (h2 : c.argTypes.toList = [T, U]) (hS : SR e F w st V fp none') (hA : AR env gh a V) (hN : Nxt env gh e K res next)
  (h : (evB env o .append [x, z] [T, U]).run C st K = some res) : o.wp P a w next Q := by
 have e1 : c.args = #[x, z] := by apply Array.ext'; rw [h1]
 have e2 : c.argTypes = #[T, U] := by apply Array.ext'; rw [h2]
 have hrun : ∀ v w', (Builtin.append_ #[T, U] o.type #[a.eval x, a.eval z]).run P w = .ok v w' → (execOp a.eval o).run P w = .ok (.value v) w' := by
  intro v w' hv
  simp only [execOp, ho, resolve, hc, e1, e2, Sem.run_bind, Sem.run_pure, Result.andThen_ok, invoke, builtin, List.map_toArray, List.map_cons, List.map_nil, hv]
 simp only [evB] at h
 obtain ⟨sv, h, hx⟩ := zSba h
 obtain ⟨t, m, y, src, h1, hd, _, hdx⟩ := zxra hS hA hx h
 obtain ⟨st0, fp0, f1, h2, hS0, hv, hm, hrep, hfl, _⟩ := zjga hS hd h1
 obtain ⟨st1, fp1, h2', hS1⟩ := zbwa hS hdx hS0 hrep h2
 clear h2
 revert h2'
 intro h2
 split at h2
 ·rename_i et u m' y
  split at h2
  ·rename_i hT
   simp only [Bool.and_eq_true] at hT
   obtain ⟨y', st2, fp2, fl2, f2, F2, h3, hS2, hF2, hb, b1, b2, b3⟩ := zGsa hE hS1 hA hT.2 h2
   have hrep := ziaa hF2 (fun _ _ => rfl) (fun _ _ => rfl) hrep
   simp only [RM.run] at h3
   cases hq : decide (List.length y + List.length y' ≤ most) with
   | false => rw [hq] at h3; cases h3
   | true =>
    rw [hq] at h3
    obtain ⟨v', w', fl', fq, k1, k2, k3, k4, k5⟩ := zzua (ty := o.type) (Env.is_ok hE hT.1) hS2 hv hrep hb (fun b hb => b2 b (.inr hb)) b1 (fun b hb hc => b3 b hc (.inr hb)) (of_decide_eq_true hq)
    exact endV k2 hA hN h3 (fun _ => k3) k4 k5 (hrun _ _ k1)
  ·simp [RM.run] at h2
 ·simp [RM.run] at h2
theorem zEqa {α : Type} {Kk : α → St → Option R} {f : Int → Int → Int} {g : Value → Value → Sem Value} {kd : IntKind} (hf : ∀ x y, f x y = x ∨ f x y = y) (hg : ∀ w x y, (g (.int kd x) (.int kd y)).run P w = .ok (.int kd (f x y)) w) (hS : SR e F w st V fp fl) (hA : AR env gh a V) :
  ∀ {xs : List Operand} {n : Int} {k : Int → RM α}, kd.has n → (foldI env f kd xs n k).run C st Kk = some res → ∃ z, (k z).run C st Kk = some res ∧ kd.has z ∧ ∀ w, ((xs.map a.eval).foldlM g (.int kd n)).run P w = .ok (.int kd z) w
 | [], n, k, hn, h => ⟨n, h, hn, fun _ => rfl⟩
 | x :: xs, n, k, hn, h => by
  simp only [foldI] at h
  obtain ⟨kd', y, h1, e1, r1⟩ := zoea hS hA h
  split at h1
  ·rename_i hk
   have := zata hk
   subst this
   obtain ⟨z, k1, k2, k3⟩ := zEqa hf hg hS hA (by rcases hf n y with hh | hh <;> rw [hh] <;> assumption) h1
   refine ⟨z, k1, k2, fun w => ?_⟩
   simp only [List.map_cons, List.foldlM_cons, Sem.run_bind, e1, hg, Result.andThen_ok]
   exact k3 w
  ·simp [RM.run] at h1
theorem zfxa {xs : List Operand} {x : Operand} {c : Call} (ho : o.op = .call c) (hc : c.callee = .builtin .min) (h1 : c.args.toList = x :: xs) (hS : SR e F w st V fp none') (hA : AR env gh a V) (hN : Nxt env gh e K res next)
  (h : (evB env o .min (x :: xs) c.argTypes.toList).run C st K = some res) : wpp P o a w next := by
 have e1 : c.args = (x :: xs).toArray := by apply Array.ext'; rw [h1]
 simp only [evB] at h
 obtain ⟨kd, y, h1, e2, r1⟩ := zoea hS hA h
 obtain ⟨z, k1, k2, k3⟩ := zEqa (P := P) (g := Builtin.min2) (fun x y => by show (if y < x then y else x) = x ∨ (if y < x then y else x) = y; split <;> simp) (fun w x y => rfl) hS hA r1 h1
 refine endVp (v := .int kd z) hS hA hN k1 (fun _ => rfl) (zifa k2) (fun _ hb => hb) ?_
 intro w
 simp only [execOp, ho, resolve, hc, e1, Sem.run_bind, Sem.run_pure, Result.andThen_ok, invoke, builtin, List.map_toArray, List.map_cons, Builtin.min_, e2, k3]
theorem zgxa {xs : List Operand} {x : Operand} {c : Call} (ho : o.op = .call c) (hc : c.callee = .builtin .max) (h1 : c.args.toList = x :: xs) (hS : SR e F w st V fp none') (hA : AR env gh a V) (hN : Nxt env gh e K res next)
  (h : (evB env o .max (x :: xs) c.argTypes.toList).run C st K = some res) : wpp P o a w next := by
 have e1 : c.args = (x :: xs).toArray := by apply Array.ext'; rw [h1]
 simp only [evB] at h
 obtain ⟨kd, y, h1, e2, r1⟩ := zoea hS hA h
 obtain ⟨z, k1, k2, k3⟩ := zEqa (P := P) (g := Builtin.max2) (fun x y => by show (if y > x then y else x) = x ∨ (if y > x then y else x) = y; split <;> simp) (fun w x y => rfl) hS hA r1 h1
 refine endVp (v := .int kd z) hS hA hN k1 (fun _ => rfl) (zifa k2) (fun _ hb => hb) ?_
 intro w
 simp only [execOp, ho, resolve, hc, e1, Sem.run_bind, Sem.run_pure, Result.andThen_ok, invoke, builtin, List.map_toArray, List.map_cons, Builtin.max_, e2, k3]
end
end Go.Trm
namespace Go.Trm
def ArgsR (F : Blks) (w : World) : (ks : List PK) → DI ks → List Value → (Nat → Blks) → Prop
 | [], _, vs, _ => vs = []
 | .val t m :: ks, d, vs, fps => ∃ v vs', vs = v :: vs' ∧ isV t v ∧ m ≠ .j ∧ rep F w t m d.1 (cv v) (fps 0) ∧ ArgsR F w ks d.2 vs' (fun i => fps (i + 1))
 | .fn f :: ks, d, vs, fps => ∃ v vs', vs = v :: vs' ∧ v = .func (.func f) #[] #[] ∧ ArgsR F w ks d.2 vs' (fun i => fps (i + 1))
 | .ref t m _ :: ks, d, vs, fps => ∃ v vs', vs = v :: vs' ∧ isV (.ptr 0 t) v ∧ rep F w (.ptr 0 t) (.o m) (some d.1) (cv v) (fps 0) ∧ ArgsR F w ks d.2 vs' (fun i => fps (i + 1))
def ResR (F : Blks) (w : World) (v : Value) (fo : Blks) (sv : SV) : Prop := svR F w (fun _ => .un) (fun _ => undef) fo v sv
def BackR (F : Blks) (w : World) : (ks : List PK) → DB ks → List Value → (Nat → Blks) → Prop
 | .ref t _ m' :: ks, b, v :: vs, fs => isV (.ptr 0 t) v ∧ rep F w (.ptr 0 t) (.o m') (some b.1) (cv v) (fs 0) ∧ BackR F w ks b.2 vs (fun i => fs (i + 1))
 | .val _ _ :: ks, b, _ :: vs, fs => BackR F w ks b vs (fun i => fs (i + 1))
 | .fn _ :: ks, b, _ :: vs, fs => BackR F w ks b vs (fun i => fs (i + 1))
 | _, _, _, _ => True
def PanR (F : Blks) (w : World) (p : PanV) (chain : List PanicEntry) : Prop := ∃ v, chain = [{ v, recovered := false }] ∧ IfcOk F w p.T p.t p.x v
theorem PanR.mono {F F' : Blks} {w : World} {p : PanV} {ch : List PanicEntry} (h : PanR F w p ch) (hF : ∀ b, F b → F' b) : PanR F' w p ch := by
 obtain ⟨v, h1, u, e1, e2, e3, e4⟩ := h
 exact ⟨v, h1, u, e1, e2, e3, ziaa hF (fun _ _ => rfl) (fun _ hb => hb.elim) e4⟩
structure Holds (P : Program) (f : FuncId) (c : CSpec) : Prop where
 fn : ∃ fn code, P.funcs[f]? = some fn ∧ (fn.name == "runtime.NumGoroutine") = false ∧ fn.body = some code
 calls : ∀ (F : Blks) (w : World) (d : DI c.ins) (vs : List Value) (fps : Nat → Blks) (R : Type) (K : DR c.outs → DB c.ins → Option R) (Kp : PI c.pan → DB c.ins → Option R) (res : R),
  GlOk P F w → (∀ b, F b → b < w.heap.size) → Disj fps → (∀ i b, fps i b → ¬ F b ∧ b < w.heap.size) → ArgsR F w c.ins d vs fps → c.fn d K Kp = some res →
  Calls P f vs.toArray w fun e w' => ∃ rb, ∃ F' fo : Blks, ∃ fb : Nat → Blks, ((∃ v ro, e = .returned v ∧ K ro rb = some res ∧ ResR F' w' v fo (resS c.outs ro)) ∨ (∃ ch pi, e = .panicked ch ∧ Kp pi rb = some res ∧ PanR F' w' (PI.pan c.pan pi) ch)) ∧ (∀ b, F b → F' b) ∧ Grew w w' ∧ (∀ b, b < w.heap.size → (∀ i, ¬ fps i b) → Same w w' b) ∧
   (Disj fb ∧ (∀ i b, fb i b → ¬ fo b) ∧ BackR F' w' c.ins rb vs fb) ∧ (∀ b, (fo b ∨ ∃ i, fb i b) → ¬ F' b ∧ b < w'.heap.size ∧ ((∃ i, fps i b) ∨ w.heap.size ≤ b)) ∧ (∀ b, F' b → b < w'.heap.size ∧ (F b ∨ (∃ i, fps i b) ∨ w.heap.size ≤ b))
def EnvFn (P : Program) (env : Env) : Prop := ∀ f gs c, env.gam f gs = some c → Holds P f c
theorem ArgsR.mono {F F' : Blks} {w : World} (hF : ∀ b, F b → F' b) : ∀ {ks : List PK} {d : DI ks} {vs : List Value} {fps : Nat → Blks}, ArgsR F w ks d vs fps → ArgsR F' w ks d vs fps
 | [], _, _, _, h => h
 | .val _ _ :: _, _, _, _, ⟨v, vs', h1, h2, h3, h4, h5⟩ => ⟨v, vs', h1, h2, h3, ziaa hF (fun _ _ => rfl) (fun _ _ => rfl) h4, h5.mono hF⟩
 | .fn _ :: _, _, _, _, ⟨v, vs', h1, h2, h5⟩ => ⟨v, vs', h1, h2, h5.mono hF⟩
 | .ref _ _ _ :: _, _, _, _, ⟨v, vs', h1, h2, h4, h5⟩ => ⟨v, vs', h1, h2, ziaa hF (fun _ _ => rfl) (fun _ _ => rfl) h4, h5.mono hF⟩
section
variable {P : Program} {env : Env} {e : Entry} {F : Blks} {w : World} {st : St} {V : Nat → Value} {fp : Nat → Blks} {fl : Blks} {a : Act} {o : Oper} {R : Type} {K : Unit → St → Option R} {res : R} {C : Cx R} {gh : Nat → Value} {next : Act → World → Prop} {Q : Exit → Act → World → Prop}
theorem zoqa {F F' : Blks} {w : World} : ∀ {t : Ty} {m : Md} {x : t.I} {c : Cells} {fq : Blks}, clsd t m = true → rep F w t m x c fq → rep F' w t m x c fq := by
 intro t
 induction t with
 | sl e t ih =>
  intro m x c fq h hr
  cases m with
  | o m =>
   simp only [clsd] at h
   simp only [rep] at hr ⊢
   obtain ⟨A, cap, q1, q2, q3, q4, q5⟩ := hr
   refine ⟨A, cap, q1, q2, q3, q4, fun a ha => ?_⟩
   obtain ⟨p1, p2, p3, fs, p4, p5, p6⟩ := q5 a ha
   exact ⟨p1, p2, p3, fs, p4, p5, fun i hi => ih h (p6 i hi)⟩
  | _ => cases h
 | ptr e t ih =>
  intro m x c fq h hr
  cases m with
  | o m =>
   simp only [clsd] at h
   simp only [rep] at hr ⊢
   obtain ⟨A, q1, q2⟩ := hr
   refine ⟨A, q1, ?_⟩
   cases x with
   | none => exact q2
   | some y =>
    obtain ⟨a, ha, p1, p2, p3, f, p4, p5⟩ := q2
    exact ⟨a, ha, p1, p2, p3, f, p4, ih h p5⟩
  | _ => cases h
 | pair a b iha ihb =>
  intro m x c fq h hr
  simp only [clsd, Bool.and_eq_true] at h
  obtain ⟨fa, fb, h1, h2, h3, ra, rb⟩ := zpda hr
  have : ∃ fa fb : Blks, (∀ i, fa i → fq i) ∧ (∀ i, fb i → fq i) ∧ (∀ i, fa i → ¬ fb i) ∧ rep F' w a m.fst x.1 c fa ∧ rep F' w b m.snd x.2 (fun j => c (a.size + j)) fb := ⟨fa, fb, h1, h2, h3, iha h.1 ra, ihb h.2 rb⟩
  cases m with
  | j => exact rep_j
  | _ => simpa only [rep] using this
 | arr n t ih =>
  intro m x c fq h hr
  simp only [clsd] at h
  cases m with
  | j => exact rep_j
  | _ =>
   simp only [rep] at hr ⊢
   obtain ⟨hn, fs, h1, h2, r⟩ := hr
   exact ⟨hn, fs, h1, h2, fun i hi => ih h (r i hi)⟩
 | _ => intro m x c fq h hr; cases m <;> simp only [rep] at hr ⊢ <;> exact hr
theorem zdra {α : Type} {Kk : α → St → Option R} (hA : AR env gh a V) {x : Operand} {k : Nat → TypeId → RM α} (hS : SR e F w st V fp fl) (h : (refOf env x k).run C st Kk = some res) :
  ∃ r T t m y, (k r T).run C st Kk = some res ∧ st r = .v (.ptr T t) m y ∧ a.eval x = V r := by
 unfold refOf at h
 obtain ⟨sv, h1, hx⟩ := zSba h
 split at h1
 ·rename_i r p
  rcases hx with ⟨s, rfl, hs, h3⟩ | ⟨c, rfl, h3⟩ | ⟨f', rfl, h3⟩
  ·have hev : a.eval (.tmp s) = V (env.b + s) := hA.tmps s hs
   have hsv := hS.sv (env.b + s)
   rw [← h3] at hsv
   split at h1
   ·simp only [RM.run] at h1
    split at h1
    ·rename_i T t m y hst
     refine ⟨r, T, t, m, y, h1, hst, ?_⟩
     obtain ⟨_, o1, o2, u, c', b, k0, o3, o4⟩ := hsv _ _ _ hst
     cases m with
     | o m =>
      cases y with
      | none => simp [inP] at o2
      | some y =>
       obtain ⟨_, _, _, u2, c2, b2, k2, q3, q4⟩ := zCta hS hst _ _ _ hst
       rw [o3] at q3
       cases q3
       rw [hev, o4, q4]
     | _ => simp [ownP] at o1
    ·simp [RM.run] at h1
   ·simp [RM.run] at h1
  ·unfold cst at h3; (repeat' split at h3) <;> cases h3
  ·cases h3
 ·rename_i T t m y
  cases hself : self env x with
  | none => rw [hself] at h1; simp [RM.run] at h1
  | some s =>
   rw [hself] at h1
   rcases hx with ⟨s', rfl, hs, h3⟩ | ⟨c, rfl, h3⟩ | ⟨f', rfl, h3⟩
   ·cases hself
    exact ⟨_, T, t, _, y, h1, h3.symm, hA.tmps _ hs⟩
   ·cases hself
   ·cases hself
 ·rename_i r p
  rcases hx with ⟨s, rfl, hs, h3⟩ | ⟨c, rfl, h3⟩ | ⟨f', rfl, h3⟩
  ·have hev : a.eval (.tmp s) = V (env.b + s) := hA.tmps s hs
   have hsv := hS.sv (env.b + s)
   rw [← h3] at hsv
   split at h1
   ·simp only [RM.run] at h1
    split at h1
    ·rename_i T t m y hst
     refine ⟨r, T, t, _, y, h1, hst, ?_⟩
     obtain ⟨_, _, u, c', ad, o3, o4⟩ := hsv _ _ _ hst
     simp only [rs, Option.some.injEq, Prod.mk.injEq] at o3
     obtain ⟨rfl, rfl, _⟩ := o3
     have hrv := hS.sv r
     rw [hst] at hrv
     rw [hev, o4]
     exact (hrv.1 nofun).symm
    ·simp [RM.run] at h1
   ·simp [RM.run] at h1
  ·unfold cst at h3; (repeat' split at h3) <;> cases h3
  ·cases h3
 ·simp [RM.run] at h1
theorem zwka {α : Type} {Kk : α → St → Option R} (hA : AR env gh a V) (hS : SR e F w st V fp fl) : ∀ {ks : List PK} {xs : List Operand} {k : List (Option (Nat × TypeId)) → RM α}, (zIoa env ks xs k).run C st Kk = some res →
  ∃ rs : List (Option (Nat × TypeId)), (k rs).run C st Kk = some res ∧ ∀ (i r : Nat) (T : TypeId), rs[i]? = some (some (r, T)) → (xs.map a.eval)[i]? = some (V r)
 | [], xs, k, h => ⟨[], h, fun i r T hi => by simp at hi⟩
 | .val _ _ :: ks, [], k, h => by simp [zIoa, RM.run] at h
 | .fn _ :: ks, [], k, h => by simp [zIoa, RM.run] at h
 | .ref _ _ _ :: ks, [], k, h => by simp [zIoa, RM.run] at h
 | .val _ _ :: ks, x :: xs, k, h => by
  obtain ⟨rs, h1, h2⟩ := zwka hA hS (ks := ks) h
  refine ⟨_, h1, fun i r T hi => ?_⟩
  cases i with
  | zero => simp at hi
  | succ i => simpa using h2 i r T (by simpa using hi)
 | .fn _ :: ks, x :: xs, k, h => by
  obtain ⟨rs, h1, h2⟩ := zwka hA hS (ks := ks) h
  refine ⟨_, h1, fun i r T hi => ?_⟩
  cases i with
  | zero => simp at hi
  | succ i => simpa using h2 i r T (by simpa using hi)
 | .ref _ _ _ :: ks, x :: xs, k, h => by
  simp only [zIoa] at h
  obtain ⟨r0, T0, t0, m0, y0, h1, _, hev⟩ := zdra hA hS h
  obtain ⟨rs, h1, h2⟩ := zwka hA hS (ks := ks) h1
  refine ⟨_, h1, fun i r T hi => ?_⟩
  cases i with
  | zero =>
   simp only [List.getElem?_cons_zero, Option.some.injEq, Prod.mk.injEq] at hi
   obtain ⟨rfl, rfl⟩ := hi
   simpa using hev
  | succ i => simpa using h2 i r T (by simpa using hi)
theorem zxqa {T T' : TypeId} {t : Ty} {v : Value} (h : isV (.ptr T t) v) : isV (.ptr T' t) v := h
theorem znqa {T T' : TypeId} {t : Ty} {m : Md} {x : Option t.I} {c : Cells} {fq : Blks} (h : rep F w (.ptr T t) m x c fq) : rep F w (.ptr T' t) m x c fq := by
 cases m <;> simp only [rep] at h ⊢ <;> exact h
theorem zxja {ks : List PK} {b : DB ks} {fs : Nat → Blks} : BackR F w ks b [] fs := by
 cases ks with
 | nil => trivial
 | cons k ks => cases k <;> simp [BackR]
theorem zbla {α : Type} {Kk : α → St → Option R} : ∀ {ks : List PK} {b : DB ks} {rs : List (Option (Nat × TypeId))} {vs : List Value} {fb : Nat → Blks} {k : RM α} {st : St} {fp : Nat → Blks} {fl : Blks},
  SR e F w st V fp fl → BackR F w ks b vs fb → (∀ (i r : Nat) (T : TypeId), rs[i]? = some (some (r, T)) → vs[i]? = some (V r)) → Disj fb → (∀ i b, fb i b → fl b) → (backs ks b rs k).run C st Kk = some res →
  ∃ st' fp', k.run C st' Kk = some res ∧ SR e F w st' V fp' (fun b => fl b ∧ ∀ i, ¬ fb i b)
 | [], _, _, _, fb, _, st, fp, fl, hS, _, _, _, _, h => ⟨st, fp, h, hS.less fun b hb => hb.1⟩
 | .val _ _ :: ks, b, [], _, _, _, _, _, _, hS, _, _, _, _, h => by simp [backs, RM.run] at h
 | .fn _ :: ks, b, [], _, _, _, _, _, _, hS, _, _, _, _, h => by simp [backs, RM.run] at h
 | .ref _ _ _ :: ks, b, [], _, _, _, _, _, _, hS, _, _, _, _, h => by simp [backs, RM.run] at h
 | .ref _ _ _ :: ks, b, none :: rs, _, _, _, _, _, _, hS, _, _, _, _, h => by simp [backs, RM.run] at h
 | .val _ _ :: ks, b, r0 :: rs, vs, fb, k, st, fp, fl, hS, hB, hr, hd, hq, h => by
  have hB' : BackR F w ks b vs.tail (fun i => fb (i + 1)) := by
   cases vs with
   | nil => exact zxja
   | cons v vs => exact hB
  obtain ⟨st', fp', h1, h2⟩ := zbla (ks := ks) (vs := vs.tail) hS hB' (fun i r T hi => by
    have := hr (i + 1) r T (by simpa using hi)
    cases vs with
    | nil => simp at this
    | cons v vs => simpa using this) ⟨fun i j hij b hb hb' => hd.disj (i + 1) (j + 1) (by omega) b hb hb'⟩ (fun i b hb => hq (i + 1) b hb) h
  exact ⟨st', fp', h1, h2.less fun b hb => ⟨hb.1, fun i => hb.2 (i + 1)⟩⟩
 | .fn _ :: ks, b, r0 :: rs, vs, fb, k, st, fp, fl, hS, hB, hr, hd, hq, h => by
  have hB' : BackR F w ks b vs.tail (fun i => fb (i + 1)) := by
   cases vs with
   | nil => exact zxja
   | cons v vs => exact hB
  obtain ⟨st', fp', h1, h2⟩ := zbla (ks := ks) (vs := vs.tail) hS hB' (fun i r T hi => by
    have := hr (i + 1) r T (by simpa using hi)
    cases vs with
    | nil => simp at this
    | cons v vs => simpa using this) ⟨fun i j hij b hb hb' => hd.disj (i + 1) (j + 1) (by omega) b hb hb'⟩ (fun i b hb => hq (i + 1) b hb) h
  exact ⟨st', fp', h1, h2.less fun b hb => ⟨hb.1, fun i => hb.2 (i + 1)⟩⟩
 | .ref t m m' :: ks, b, some (r0, T0) :: rs, vs, fb, k, st, fp, fl, hS, hB, hr, hd, hq, h => by
  have h0 := hr 0 r0 T0 rfl
  cases vs with
  | nil => simp at h0
  | cons v vs =>
   simp only [List.getElem?_cons_zero, Option.some.injEq] at h0
   subst h0
   obtain ⟨b1, b2, b3⟩ := hB
   simp only [backs, setS, RM.run] at h
   have hS1 := hS.fillV (d := r0) (v := V r0) (fq := fb 0) (fl' := fun b => fl b ∧ ¬ fb 0 b) (fun _ => rfl) (fun _ => zxqa (T' := T0) b1) (znqa b2) (fun b hb => hq 0 b hb) (fun b hb => hb)
   rw [zoka] at hS1
   obtain ⟨st', fp', h1, h2⟩ := zbla (ks := ks) (vs := vs) hS1 b3 (fun i r T hi => by
     have := hr (i + 1) r T (by simpa using hi)
     simpa using this) ⟨fun i j hij b hb hb' => hd.disj (i + 1) (j + 1) (by omega) b hb hb'⟩ (fun i b hb => ⟨hq (i + 1) b hb, fun hc => hd.disj (i + 1) 0 (by omega) b hb hc⟩) h
   exact ⟨st', fp', h1, h2.less fun b hb => ⟨⟨hb.1, hb.2 0⟩, fun i => hb.2 (i + 1)⟩⟩
theorem zzda {α : Type} {Kk : α → St → Option R} {cl : Bool} (hA : AR env gh a V) : ∀ {ks : List PK} {xs : List Operand} {Ts : List TypeId} {k : DI ks → List Nat → List Nat → RM α} {st : St} {fp : Nat → Blks} {fl F : Blks},
  SR e F w st V fp fl → (zyia env cl ks xs Ts k).run C st Kk = some res →
  ∃ st' fp', ∃ fl' F' : Blks, ∃ d ms bs, ∃ fps : Nat → Blks, (k d ms bs).run C st' Kk = some res ∧ SR e F' w st' V fp' fl' ∧ (∀ b, F b → F' b) ∧ (∀ b, fl b → fl' b) ∧ Disj fps ∧ (∀ i b, fps i b → fl' b ∧ ¬ fl b) ∧
   (cl = true → ∀ r, r ∉ ms → ∀ t m x, st' r = .v t m x ↔ st r = .v t m x) ∧ (cl = false → bs = []) ∧ ArgsR (fun b => F' b ∨ ∃ r, r ∈ bs ∧ fp' r b) w ks d (xs.map a.eval) fps
 | [], [], Ts, k, st, fp, fl, F, hS, h => ⟨st, fp, fl, F, (), [], [], fun _ => none', h, hS, fun _ hb => hb, fun _ hb => hb, ⟨fun _ _ _ _ hb => hb.elim⟩, fun _ _ hb => hb.elim, fun _ _ _ _ _ _ => Iff.rfl, fun _ => rfl, rfl⟩
 | [], x :: xs, Ts, k, st, fp, fl, F, hS, h => by simp [zyia, RM.run] at h
 | .val t m :: ks, [], Ts, k, st, fp, fl, F, hS, h => by simp [zyia, RM.run] at h
 | .fn f :: ks, [], Ts, k, st, fp, fl, F, hS, h => by simp [zyia, RM.run] at h
 | .ref _ _ _ :: ks, [], Ts, k, st, fp, fl, F, hS, h => by simp [zyia, RM.run] at h
 | .ref t m mb :: ks, x :: xs, Ts, k, st, fp, fl, F, hS, h => by
  simp only [zyia] at h
  obtain ⟨r, T, t0, m0, y0, h1, hst, hev⟩ := zdra hA hS h
  simp only [RM.run, hst] at h1
  cases y0 with
  | none => simp [RM.run] at h1
  | some c =>
   simp only at h1
   split at h1
   ·rename_i c' hc he
    obtain ⟨eu, hy'⟩ := zhba hc
    subst eu
    simp only at hy'
    subst hy'
    have hm0 : m0 ≠ .j := fun hc => by subst hc; cases he
    have hdx : DataX F w st V (a.eval x) (.ptr T t0) m0 (some c) (some (r, [])) := by
     refine ⟨hm0, _, _, _, hst, rfl, by simp [ownP], by simp [inP], cv (V r), none, by simp [rs], ?_⟩
     have hsv := hS.sv r
     rw [hst] at hsv
     rw [hev]
     exact hsv.1 hm0
    obtain ⟨st1, fp1, fq, F1, h2, hS1, hF1, hv1, hm1, hrep1, hfl, hiff⟩ := zOma (m' := .o m) hS hdx.at he h1
    obtain ⟨st', fp', fl', F', d, ms, bs, fps, k1, k2, k3, k4, k5, k6, k7, k8, k9⟩ := zzda hA hS1 h2
    have hrep2 : rep F1 w (.ptr 0 t0) (.o m) (some c) (cv (a.eval x)) fq := znqa hrep1
    refine ⟨st', fp', fl', F', (c, d), r :: ms, bs, fun i => match i with | 0 => fq | i + 1 => fps i, k1, k2, fun b hb => k3 b (hF1 b hb), fun b hb => k4 b (.inl hb), ⟨fun i j hij b hb hb' => ?_⟩, fun i b hb => ?_, fun hcl r' hr' t1 m1 x1 => ?_, k8, ⟨_, _, rfl, zxqa hv1, ziaa (fun b hb => .inl (k3 b hb)) (fun _ _ => rfl) (fun _ _ => rfl) hrep2, k9⟩⟩
    ·cases i <;> cases j
     ·exact hij rfl
     ·exact (k6 _ b hb').2 (.inr hb)
     ·exact (k6 _ b hb).2 (.inr hb')
     ·exact k5.disj _ _ (by omega) b hb hb'
    ·cases i
     ·exact ⟨k4 b (.inr hb), hfl b hb⟩
     ·exact ⟨(k6 _ b hb).1, fun hc => (k6 _ b hb).2 (.inl hc)⟩
    ·rw [k7 hcl r' (fun hc => hr' (List.mem_cons_of_mem _ hc))]
     exact hiff r' (.inr ⟨r, [], rfl, fun hc => hr' (hc ▸ List.mem_cons_self)⟩) _ _ _
   ·simp [RM.run] at h1
 | .fn f :: ks, x :: xs, Ts, k, st, fp, fl, F, hS, h => by
  simp only [zyia] at h
  obtain ⟨sv, h1, hx⟩ := zSba h
  split at h1
  ·rename_i g
   split at h1
   ·rename_i hg
    have := Nat.eq_of_beq_eq_true hg
    subst this
    have hv : a.eval x = .func (.func f) #[] #[] := by
     rcases hx with ⟨s, rfl, hs, h3⟩ | ⟨c, rfl, h3⟩ | ⟨f', rfl, h3⟩
     ·have hev : a.eval (.tmp s) = V (env.b + s) := hA.tmps s hs
      have hsv := hS.sv (env.b + s)
      rw [← h3] at hsv
      obtain ⟨us, vs, e1, e2, e3⟩ := hsv
      rw [hev, e1, List.eq_nil_of_length_eq_zero e2.1, List.eq_nil_of_length_eq_zero e3.1]
     ·unfold cst at h3; (repeat' split at h3) <;> cases h3
     ·cases h3; rfl
    obtain ⟨st', fp', fl', F', d, ms, bs, fps, k1, k2, k3, k4, k5, k6, k7, k8, k9⟩ := zzda hA hS h1
    refine ⟨st', fp', fl', F', ((), d), ms, bs, fun i => match i with | 0 => none' | i + 1 => fps i, k1, k2, k3, k4, ⟨fun i j hij b hb hb' => ?_⟩, fun i b hb => ?_, k7, k8, ⟨_, _, rfl, hv, k9⟩⟩
    ·cases i <;> cases j <;> first | exact hb.elim | exact hb'.elim | exact k5.disj _ _ (by omega) b hb hb'
    ·cases i <;> first | exact hb.elim | exact k6 _ b hb
   ·simp [RM.run] at h1
  ·simp [RM.run] at h1
 | .val t m :: ks, x :: xs, Ts, k, st, fp, fl, F, hS, h => by
  simp only [zyia] at h
  obtain ⟨u, mu, y, src, h1, hd, _⟩ := zWca hS hA h
  split at h1
  ·simp [RM.run] at h1
  ·rename_i y' hc
   obtain ⟨eu, hy⟩ := zhba hc
   subst eu
   simp only at hy
   subst hy
   obtain ⟨hv, hmu, fq0, hrep, hfq⟩ := hd.rep hS
   split at h1
   ·split at h1
    ·obtain ⟨st', fp', fl', F', d, ms, bs, fps, k1, k2, k3, k4, k5, k6, k7, k8, k9⟩ := zzda hA hS h1
     refine ⟨st', fp', fl', F', (y, d), ms, bs, fun i => match i with | 0 => none' | i + 1 => fps i, k1, k2, k3, k4, ⟨fun i j hij b hb hb' => ?_⟩, fun i b hb => ?_, k7, k8, ⟨_, _, rfl, hv, nofun, rep_s (ziaa (fun b hb => .inl (k3 b hb)) (fun _ _ => rfl) (fun _ _ => rfl) hrep), k9⟩⟩
     ·cases i <;> cases j <;> first | exact hb.elim | exact hb'.elim | exact k5.disj _ _ (by omega) b hb hb'
     ·cases i <;> first | exact hb.elim | exact k6 _ b hb
    ·split at h1
     ·rename_i k _ _ _ hnj
      have hnone : src = none → (zyia env cl ks xs Ts.tail fun d ms bs => k (y, d) ms bs).run C st Kk = some res → ∃ st' fp', ∃ fl' F' : Blks, ∃ d ms bs, ∃ fps : Nat → Blks, (k d ms bs).run C st' Kk = some res ∧ SR e F' w st' V fp' fl' ∧ (∀ b, F b → F' b) ∧ (∀ b, fl b → fl' b) ∧ Disj fps ∧ (∀ i b, fps i b → fl' b ∧ ¬ fl b) ∧
        (cl = true → ∀ r, r ∉ ms → ∀ t m x, st' r = .v t m x ↔ st r = .v t m x) ∧ (cl = false → bs = []) ∧ ArgsR (fun b => F' b ∨ ∃ r, r ∈ bs ∧ fp' r b) w (.val u .s :: ks) d ((x :: xs).map a.eval) fps := by
       rintro rfl h1
       obtain ⟨st', fp', fl', F', d, ms, bs, fps, k1, k2, k3, k4, k5, k6, k7, k8, k9⟩ := zzda hA hS h1
       refine ⟨st', fp', fl', F', (y, d), ms, bs, fun i => match i with | 0 => none' | i + 1 => fps i, k1, k2, k3, k4, ⟨fun i j hij b hb hb' => ?_⟩, fun i b hb => ?_, k7, k8, ⟨_, _, rfl, hv, nofun, rep_s (zEga (fun b hb => .inl (k3 b hb)) hrep hnj (fun b hb => ?_)), k9⟩⟩
       ·cases i <;> cases j <;> first | exact hb.elim | exact hb'.elim | exact k5.disj _ _ (by omega) b hb hb'
       ·cases i <;> first | exact hb.elim | exact k6 _ b hb
       ·obtain ⟨_, _, hc, _⟩ := hfq b hb
        cases hc
      cases src with
      | none => cases cl <;> exact hnone rfl h1
      | some rp =>
      obtain ⟨r, p⟩ := rp
      cases cl with
      | true =>
       obtain ⟨st', fp', fl', F', d, ms, bs, fps, k1, k2, k3, k4, k5, k6, k7, k8, k9⟩ := zzda hA hS h1
       split at k1
       ·rename_i hms
        have hr : r ∉ ms := fun hc => by
         have := List.all_eq_true.1 hms r hc
         rw [Nat.beq_refl] at this
         cases this
        have hd' : DataAt F' w st' V (a.eval x) u mu y (some (r, p)) := by
         obtain ⟨d0, t0, m0, x0, d1, d2⟩ := hd
         exact ⟨d0, t0, m0, x0, (k7 rfl r hr _ _ _).2 d1, d2⟩
        obtain ⟨_, _, fq1, hrep1, hfq1⟩ := hd'.rep k2
        refine ⟨st', fp', fl', F', (y, d), ms, r :: bs, fun i => match i with | 0 => none' | i + 1 => fps i, k1, k2, k3, k4, ⟨fun i j hij b hb hb' => ?_⟩, fun i b hb => ?_, k7, fun hc => (by cases hc), ⟨_, _, rfl, hv, nofun, rep_s (zEga (F' := fun b => F' b ∨ ∃ q, q ∈ r :: bs ∧ fp' q b) (fun b hb => .inl hb) hrep1 hnj (fun b hb => ?_)), k9.mono (fun b hb => ?_)⟩⟩
        ·cases i <;> cases j <;> first | exact hb.elim | exact hb'.elim | exact k5.disj _ _ (by omega) b hb hb'
        ·cases i <;> first | exact hb.elim | exact k6 _ b hb
        ·obtain ⟨r', p', e1, e2⟩ := hfq1 b hb
         cases e1
         exact .inr ⟨r, List.mem_cons_self, e2⟩
        ·rcases hb with hb | ⟨q, hq, hb⟩
         ·exact .inl hb
         ·exact .inr ⟨q, List.mem_cons_of_mem _ hq, hb⟩
       ·simp [RM.run] at k1
      | false =>
       obtain ⟨st1, fp1, F1, h2, hS1, hF1, hv1, hrep1⟩ := znha hS hd nofun h1
       obtain ⟨st', fp', fl', F', d, ms, bs, fps, k1, k2, k3, k4, k5, k6, k7, k8, k9⟩ := zzda hA hS1 h2
       refine ⟨st', fp', fl', F', (y, d), ms, bs, fun i => match i with | 0 => none' | i + 1 => fps i, k1, k2, fun b hb => k3 b (hF1 b hb), k4, ⟨fun i j hij b hb hb' => ?_⟩, fun i b hb => ?_, nofun, k8, ⟨_, _, rfl, hv, nofun, rep_s (ziaa (fun b hb => .inl (k3 b hb)) (fun _ _ => rfl) (fun _ _ => rfl) hrep1), k9⟩⟩
       ·cases i <;> cases j <;> first | exact hb.elim | exact hb'.elim | exact k5.disj _ _ (by omega) b hb hb'
       ·cases i <;> first | exact hb.elim | exact k6 _ b hb
     ·simp [RM.run] at h1
   ·rename_i hms
    split at h1
    ·rename_i he
     obtain ⟨st1, fp1, fq, F1, h2, hS1, hF1, hv1, hm1, hrep1, hfl, hiff⟩ := zOma (m' := m) hS hd he h1
     obtain ⟨st', fp', fl', F', d, ms, bs, fps, k1, k2, k3, k4, k5, k6, k7, k8, k9⟩ := zzda hA hS1 h2
     have hrest : ∀ ms', (∀ r, r ∉ ms' → r ∉ ms ∧ (src = none ∨ ∃ r0 p0, src = some (r0, p0) ∧ r ≠ r0)) → (k (y, d) ms' bs).run C st' Kk = some res → ∃ st' fp', ∃ fl' F' : Blks, ∃ d ms bs, ∃ fps : Nat → Blks, (k d ms bs).run C st' Kk = some res ∧ SR e F' w st' V fp' fl' ∧ (∀ b, F b → F' b) ∧ (∀ b, fl b → fl' b) ∧ Disj fps ∧ (∀ i b, fps i b → fl' b ∧ ¬ fl b) ∧
       (cl = true → ∀ r, r ∉ ms → ∀ t m x, st' r = .v t m x ↔ st r = .v t m x) ∧ (cl = false → bs = []) ∧ ArgsR (fun b => F' b ∨ ∃ r, r ∈ bs ∧ fp' r b) w (.val u m :: ks) d ((x :: xs).map a.eval) fps := by
      intro ms' hms' k1'
      refine ⟨st', fp', fl', F', (y, d), ms', bs, fun i => match i with | 0 => fq | i + 1 => fps i, k1', k2, fun b hb => k3 b (hF1 b hb), fun b hb => k4 b (.inl hb), ⟨fun i j hij b hb hb' => ?_⟩, fun i b hb => ?_, fun hcl r hr t1 m1 x1 => ?_, k8, ⟨_, _, rfl, hv1, hm1, ziaa (fun b hb => .inl (k3 b hb)) (fun _ _ => rfl) (fun _ _ => rfl) hrep1, k9⟩⟩
      ·cases i <;> cases j
       ·exact hij rfl
       ·exact (k6 _ b hb').2 (.inr hb)
       ·exact (k6 _ b hb).2 (.inr hb')
       ·exact k5.disj _ _ (by omega) b hb hb'
      ·cases i
       ·exact ⟨k4 b (.inr hb), hfl b hb⟩
       ·exact ⟨(k6 _ b hb).1, fun hc => (k6 _ b hb).2 (.inl hc)⟩
      ·obtain ⟨q1, q2⟩ := hms' r hr
       rw [k7 hcl r q1]
       exact hiff r q2 _ _ _
     cases src with
     | none => exact hrest ms (fun r hr => ⟨hr, .inl rfl⟩) k1
     | some rp =>
      obtain ⟨r0, p0⟩ := rp
      exact hrest (r0 :: ms) (fun r hr => ⟨fun hc => hr (List.mem_cons_of_mem _ hc), .inr ⟨r0, p0, rfl, fun hc => hr (hc ▸ List.mem_cons_self)⟩⟩) k1
    ·simp [RM.run] at h1
theorem zaxa {w : World} : ∀ {q : List PE} {u u1 : Ty}, fldP u q = some u1 → flds q = true ∧ ∃ k, ∀ (w : World) (c : Cells) (b o : Nat), rs w u c (some (b, o)) q = some (u1, fun j => c (k + j), some (b, o + k)) := by
 intro q u
 induction u generalizing q with
 | pair x y ihx ihy =>
  intro u1 h
  cases q with
  | nil =>
   simp only [fldP, Option.some.injEq] at h
   subst h
   exact ⟨rfl, 0, fun w c b o => by simp [rs]⟩
  | cons e q =>
   cases e with
   | fld n =>
    cases n with
    | zero =>
     simp only [fldP] at h
     obtain ⟨h1, k, h2⟩ := ihx h
     exact ⟨by simpa [flds] using h1, k, fun w c b o => by simp only [rs]; exact h2 w c b o⟩
    | succ n =>
     simp only [fldP] at h
     obtain ⟨h1, k, h2⟩ := ihy h
     refine ⟨by simpa [flds] using h1, x.size + k, fun w c b o => ?_⟩
     simp only [rs, Option.map_some, h2, Option.some.injEq, Prod.mk.injEq, true_and]
     exact ⟨by funext j; rw [Nat.add_assoc], by omega⟩
   | _ => simp [fldP] at h
 | _ =>
  intro u1 h
  cases q with
  | nil =>
   simp only [fldP, Option.some.injEq] at h
   subst h
   exact ⟨rfl, 0, fun w c b o => by simp [rs]⟩
  | cons e q => simp [fldP] at h
def AlsOk (w : World) (st : St) (V : Nat → Value) (l : List (Nat × Nat × List PE × Ty)) : Prop := ∀ q ∈ l, ∃ m x, st q.2.1 = .v q.2.2.2 m x ∧ AlOk w st V q.2.1 q.2.2.1 (V q.1)
theorem zGia {α : Type} {Kk : α → St → Option R} {rs : List (Option (Nat × TypeId))} (hS : SR e F w st V fp fl) : ∀ {l : List Nat} {k : List (Nat × Nat × List PE × Ty) → RM α}, (zeqa rs l k).run C st Kk = some res → ∃ al, (k al).run C st Kk = some res ∧ AlsOk w st V al
 | [], k, h => ⟨[], h, fun q hq => by cases hq⟩
 | s :: l, k, h => by
  simp only [zeqa, RM.run] at h
  split at h
  ·rename_i r p hs
   split at h
   ·simp only [RM.run] at h
    split at h
    ·rename_i t m x hr
     obtain ⟨al, h1, h2⟩ := zGia hS h
     refine ⟨_, h1, fun q hq => ?_⟩
     rcases List.mem_cons.1 hq with rfl | hq
     ·have hsv := hS.sv s
      rw [hs] at hsv
      exact ⟨m, x, hr, hsv⟩
     ·exact h2 q hq
    ·exact zGia hS h
   ·exact zGia hS h
  ·exact zGia hS h
theorem zqha {α : Type} {Kk : α → St → Option R} {w' : World} {st0 : St} : ∀ {l : List (Nat × Nat × List PE × Ty)} {k : RM α} {st : St} {fp : Nat → Blks} {fl : Blks}, SR e F w' st V fp fl → AlsOk w st0 V l → (zVpa l k).run C st Kk = some res → ∃ st' fp', k.run C st' Kk = some res ∧ SR e F w' st' V fp' fl
 | [], k, st, fp, fl, hS, _, h => ⟨st, fp, h, hS⟩
 | (s, r, p, t) :: l, k, st, fp, fl, hS, hal, h => by
  have hl : AlsOk w st0 V l := fun q hq => hal q (List.mem_cons_of_mem _ hq)
  simp only [zVpa, RM.run] at h
  split at h
  ·rename_i T u m y hr
   split at h
   ·rename_i T' u' q
    split at h
    ·rename_i u1 hck hfl
     simp only [Bool.and_eq_true, Bool.not_eq_true'] at hck
     obtain ⟨⟨⟨k1, k2⟩, k3⟩, k4⟩ := hck
     have e1 := Nat.eq_of_beq_eq_true k1
     have e2 := Ty.eqb_eq k2
     subst e1
     subst e2
     obtain ⟨m0, x0, h0, ha⟩ := hal _ List.mem_cons_self
     obtain ⟨_, _, _, u2, c2, b, o, a4, a5⟩ := ha _ _ _ h0
     obtain ⟨f1, kk, f2⟩ := zaxa (w := w') hfl
     have hsr : s ≠ r := fun hc => by rw [hc, Nat.beq_refl] at k4; cases k4
     simp only [RM.run] at h
     have hsv : svR F w' st V none' (V s) (.al r (.der :: q)) := by
      intro t1 m1 x1 h1
      rw [hr] at h1
      cases h1
      have hrv := hS.sv r
      rw [hr] at hrv
      have hp := hrv.2
      simp only [rep] at hp
      obtain ⟨A, p1, ad, rfl, hsp, p2⟩ := hp
      obtain ⟨b1, o1, sp⟩ := ad
      simp only at hsp
      subst hsp
      have hnew : Trm.rs w' (.ptr T u) (cv (V r)) none (.der :: q) = some (u1, fun j => rowW w' b1 o1 (kk + j), some (b1, o1 + kk)) := by
       simp only [Trm.rs, p1]
       exact f2 w' _ b1 o1
      have hold : Trm.rs w (.ptr T u) (cv (V r)) none (.der :: q) = some (u1, fun j => rowW w b1 o1 (kk + j), some (b1, o1 + kk)) := by
       simp only [Trm.rs, p1]
       exact f2 w _ b1 o1
      simp only at a4
      rw [hold] at a4
      simp only [Option.some.injEq, Prod.mk.injEq] at a4
      obtain ⟨_, _, rfl, rfl⟩ := a4
      have hin : Trm.rs w' u (rowW w' b1 o1) (some (b1, o1)) q = some (u1, fun j => rowW w' b1 o1 (kk + j), some (b1, o1 + kk)) := f2 w' _ b1 o1
      refine ⟨rfl, ?_, ?_, u1, _, b1, o1 + kk, hnew, a5⟩
      ·simp only [ownP]; exact zWma f1 hin
      ·simp only [inP]; exact zVla f1 hin
     have hS1 := hS.fillO (d := s) (v := V s) (fq := none') (fl' := fl) (fun _ => rfl) rfl hsv (fun _ hb => hb.elim) (fun b hb => ⟨hb, fun h => h⟩)
     rw [zoka] at hS1
     exact zqha hS1 hl h
    ·exact zqha hS hl h
   ·exact zqha hS hl h
  ·exact zqha hS hl h
theorem zapa {α : Type} {Kk : α → St → Option R} : ∀ {xs : List Operand} {k : List FuncId → RM α}, (fnsOf env xs k).run C st Kk = some res → ∃ gs, (k gs).run C st Kk = some res
 | [], k, h => ⟨[], h⟩
 | x :: xs, k, h => by
  simp only [fnsOf] at h
  obtain ⟨sv, h1, _⟩ := zSba h
  split at h1
  ·exact zapa (k := fun l => k (_ :: l)) h1 |>.elim fun gs h2 => ⟨_, h2⟩
  ·exact zapa h1
end
end Go.Trm
