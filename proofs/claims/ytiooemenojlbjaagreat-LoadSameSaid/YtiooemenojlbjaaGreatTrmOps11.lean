import Derived.Test.YtiooemenojlbjaaGreatTrmOps10
set_option linter.unusedVariables false
set_option linter.unusedSimpArgs false
namespace Go.Trm

/-- cells that are laid over others -/
def lay (v : Array Value) (off : Nat) (cs : Array Value) : Array Value := v.zipIdx.foldl (fun cs (c, j) => cs.setIfInBounds (off + j) c) cs

theorem lay_list (off : Nat) : ∀ (l : List Value) (k : Nat) (cs : Array Value), off + k + l.length ≤ cs.size →
    ((l.zipIdx k).foldl (fun cs (c, j) => cs.setIfInBounds (off + j) c) cs).size = cs.size ∧
    (∀ j, j < l.length → ((l.zipIdx k).foldl (fun cs (c, j) => cs.setIfInBounds (off + j) c) cs).getD (off + k + j) undef = l.getD j undef) ∧
    (∀ j, (j < off + k ∨ off + k + l.length ≤ j) → ((l.zipIdx k).foldl (fun cs (c, j) => cs.setIfInBounds (off + j) c) cs).getD j undef = cs.getD j undef)
  | [], k, cs, _ => ⟨rfl, fun j hj => by simp at hj, fun _ _ => rfl⟩
  | v :: l, k, cs, h => by
    simp only [List.length_cons] at h
    obtain ⟨h1, h2, h3⟩ := lay_list off l (k + 1) (cs.setIfInBounds (off + k) v) (by simp; omega)
    simp only [List.zipIdx_cons, List.foldl_cons]
    refine ⟨by simpa using h1, fun j hj => ?_, fun j hj => ?_⟩
    · cases j with
      | zero =>
        rw [h3 (off + k + 0) (.inl (by omega))]
        have : off + k < cs.size := by omega
        simp [Array.getD, this]
      | succ j =>
        have := h2 j (by simpa using hj)
        rw [show off + k + (j + 1) = off + (k + 1) + j by omega, this]
        simp
    · simp only [List.length_cons] at hj
      rw [h3 j (by omega)]
      have : off + k ≠ j := by omega
      simp only [Array.getD_eq_getD_getElem?]
      rw [Array.getElem?_setIfInBounds_ne this]

theorem lay_ok {v cs : Array Value} {off : Nat} (h : off + v.size ≤ cs.size) : (lay v off cs).size = cs.size ∧ (∀ j, j < v.size → (lay v off cs).getD (off + j) undef = v.getD j undef) ∧ (∀ j, (j < off ∨ off + v.size ≤ j) → (lay v off cs).getD j undef = cs.getD j undef) := by
  have e : lay v off cs = (v.toList.zipIdx 0).foldl (fun cs (c, j) => cs.setIfInBounds (off + j) c) cs := by
    unfold lay
    rw [← Array.foldl_toList, Array.toList_zipIdx]
  rw [e]
  obtain ⟨h1, h2, h3⟩ := lay_list off v.toList 0 cs (by simpa using h)
  simp only [Nat.add_zero, Array.length_toList] at h1 h2 h3
  refine ⟨h1, fun j hj => ?_, h3⟩
  rw [h2 j hj]
  simp [List.getD, Array.getD_eq_getD_getElem?]

theorem fill_cons {place : Nat → Option (Nat × Nat)} {cs : Array Value} {i : Nat} {v : Value} {rest : List (Nat × Value)} {off size : Nat} (h : place i = some (off, size)) (h1 : v.cells.size = size) (h2 : off + size ≤ cs.size) :
    Instr.fill place cs ((i, v) :: rest) = Instr.fill place (lay v.cells off cs) rest := by
  simp only [Instr.fill, h]
  rw [if_neg (by simp [h1]; omega)]
  rfl

/-- one field is filled -/
theorem rep_setfld {F : Blks} {w : World} : ∀ {t : Ty} {m : Md} {z : t.I} {c : Cells} {i : Nat} {u : Ty} {mu : Md} {y : u.I} {m' : Md} {z' : t.I} {fz fq : Blks} {d : Cells}, rep F w t m z c fz → setP t m z [.fld i] u mu y = some (m', z') → rep F w u mu y d fq → (∀ b, fz b → ¬ fq b) →
    ∃ k, fldT t i = some (u, k) ∧ k + u.size ≤ t.size ∧ ∀ c' : Cells, (∀ j, j < u.size → c' (k + j) = d j) → (∀ j, (j < k ∨ k + u.size ≤ j) → c' j = c j) → rep F w t m' z' c' (fun b => fz b ∨ fq b) := by
  intro t
  induction t with
  | pair a b iha ihb =>
    intro m z c i u mu y m' z' fz fq d h hs hy hd
    obtain ⟨fa, fb, h1, h2, h3, ra, rb⟩ := rep_pair h
    cases i with
    | zero =>
      simp only [setP] at hs
      split at hs
      · rename_i ma xa hc
        split at hc
        · rename_i y' hy'
          simp only [Option.some.injEq, Prod.mk.injEq] at hc hs
          obtain ⟨rfl, rfl⟩ := hc
          obtain ⟨rfl, rfl⟩ := hs
          obtain ⟨e, hy2⟩ := castI_some hy'
          subst e
          simp only at hy2
          subst hy2
          refine ⟨0, rfl, by simp only [Ty.size]; omega, fun c' h4 h5 => ?_⟩
          refine rep_mkp (fa := fq) (fb := fb) (fun _ hb => .inr hb) (fun _ hb => .inl (h2 _ hb)) (fun b hb hc => hd b (h2 b hc) hb) (rep_cells (fun j hj => by rw [← h4 j hj, Nat.zero_add]) hy) (rep_cells (fun j hj => (h5 _ (.inr (by omega))).symm) rb)
        · cases hc
      · cases hs
    | succ i =>
      simp only [setP] at hs
      split at hs
      · rename_i mb xb hc
        simp only [Option.some.injEq] at hs
        cases hs
        obtain ⟨k, k1, k2, k3⟩ := ihb rb hc hy (fun b hb => hd b (h2 b hb))
        refine ⟨a.size + k, by simp [fldT, k1], by simp only [Ty.size]; omega, fun c' h4 h5 => ?_⟩
        refine rep_mkp (fa := fa) (fb := fun b => fb b ∨ fq b) (fun _ hb => .inl (h1 _ hb)) (fun _ hb => by rcases hb with hb | hb; exact .inl (h2 _ hb); exact .inr hb) (fun b hb hc => by rcases hc with hc | hc; exact h3 b hb hc; exact hd b (h1 b hb) hc)
          (rep_cells (fun j hj => (h5 j (.inl (by omega))).symm) ra)
          (k3 (fun j => c' (a.size + j)) (fun j hj => by rw [← Nat.add_assoc]; exact h4 j hj) (fun j hj => h5 _ (by omega)))
      · cases hs
  | _ => intro m z c i u mu y m' z' fz fq d h hs hy hd; simp [setP] at hs

section
variable {P : Program} {env : Env} {e : Entry} {F : Blks} {w : World} {st : St} {V : Nat → Value} {fp : Nat → Blks} {fl : Blks} {a : Act} {o : Oper} {R : Type} {K : Unit → St → Option R} {res : R} {C : Cx R} {gh : Nat → Value} {next : Act → World → Prop} {Q : Exit → Act → World → Prop}

theorem wtF_places : ∀ {t : Ty} {fs : List Field} {o : Nat}, wtF P t fs o = true → ∃ pl : List (Nat × Nat), fs.mapM (fun f => (P.info? f.type).map fun i => (f.offset, i.size)) = some pl ∧ ∀ i u k, fldT t i = some (u, k) → pl[i]? = some (o + k, u.size) := by
  intro t
  induction t with
  | unit =>
    intro fs o h
    cases fs with
    | nil => exact ⟨[], rfl, fun i u k hf => by simp [fldT] at hf⟩
    | cons f fs => simp [wtF] at h
  | pair a b iha ihb =>
    intro fs o h
    cases fs with
    | nil => simp [wtF] at h
    | cons f fs =>
      simp only [wtF, Bool.and_eq_true] at h
      obtain ⟨pl, h1, h2⟩ := ihb h.2.2
      obtain ⟨i, z, i1, i2, _⟩ := wt_info h.2.1
      refine ⟨(f.offset, i.size) :: pl, by simp [h1, i1], fun n u k hf => ?_⟩
      cases n with
      | zero =>
        simp only [fldT, Option.some.injEq, Prod.mk.injEq] at hf
        obtain ⟨rfl, rfl⟩ := hf
        simp [Nat.eq_of_beq_eq_true h.1, i2]
      | succ n =>
        simp only [fldT, Option.map_eq_some_iff] at hf
        obtain ⟨⟨u', k'⟩, hf, he⟩ := hf
        simp only [Prod.mk.injEq] at he
        obtain ⟨rfl, rfl⟩ := he
        have := h2 n u' k' hf
        simp only [List.getElem?_cons_succ, this, Nat.add_assoc]
  | _ => intro fs o h; simp [wtF] at h

theorem wt_places {t : Ty} {T : TypeId} (h : wt P t T = true) (hs : t.strc = true) : ∃ fs pl, P.underlying T = some (.struct fs) ∧ fs.toList.mapM (fun f => (P.info? f.type).map fun i => (f.offset, i.size)) = some pl ∧ ∀ i u k, fldT t i = some (u, k) → pl[i]? = some (k, u.size) := by
  cases t with
  | unit =>
    simp only [wt, Bool.and_eq_true] at h
    obtain ⟨_, h⟩ := h
    split at h
    · rename_i fs h2
      refine ⟨fs, [], h2, ?_, fun i u k hf => by simp [fldT] at hf⟩
      have : fs.toList = [] := by simpa using h
      rw [this]; rfl
    · cases h
  | pair a b =>
    simp only [wt, Bool.and_eq_true] at h
    obtain ⟨_, h⟩ := h
    split at h
    · rename_i fs h2
      split at h
      · rename_i f fs' h3
        have hw : wtF P (.pair a b) fs.toList 0 = true := by
          rw [h3]
          simp only [wtF, Nat.zero_add]
          exact h
        obtain ⟨pl, p1, p2⟩ := wtF_places hw
        exact ⟨fs, pl, h2, p1, fun i u k hf => by rw [p2 i u k hf, Nat.zero_add]⟩
      · cases h
    · cases h
  | _ => cases hs

theorem fields_inv {α : Type} {Kk : α → St → Option R} {Ts : Nat → TypeId} {t : Ty} {place : Nat → Option (Nat × Nat)} (hA : AR env gh a V) (hp : ∀ i u k, fldT t i = some (u, k) → place i = some (k, u.size)) : ∀ {ps : List (Nat × Operand)} {m : Md} {z : t.I} {k : Md → t.I → RM α} {st : St} {fp : Nat → Blks} {fl fz : Blks} {cs : Array Value},
    SR e F w st V fp fl → rep F w t m z (fun j => cs.getD j undef) fz → (∀ b, fz b → fl b) → cs.size = t.size → (rdFields env Ts ps t m z k).run C st Kk = some res →
    ∃ st' fp' fl' m' z' cs' fz', (k m' z').run C st' Kk = some res ∧ SR e F w st' V fp' fl' ∧ Instr.fill place cs (ps.map fun q => (q.1, a.eval q.2)) = some cs' ∧ rep F w t m' z' (fun j => cs'.getD j undef) fz' ∧ (∀ b, fz' b → fl' b) ∧ cs'.size = t.size
  | [], m, z, k, st, fp, fl, fz, cs, hS, hr, hf, hz, h => ⟨st, fp, fl, m, z, cs, fz, h, hS, rfl, hr, hf, hz⟩
  | (i, x) :: ps, m, z, k, st, fp, fl, fz, cs, hS, hr, hf, hz, h => by
    simp only [rdFields, rdT] at h
    obtain ⟨u, mu, y, src, h1, hd, _⟩ := rdV_inv hS hA h
    obtain ⟨st1, fp1, fq, h2, hS1, hv, hm, hrep, hfl, _⟩ := take_inv hS hd h1
    split at h2
    · rename_i m' z' hset
      obtain ⟨kk, f1, f2, f3⟩ := rep_setfld hr hset hrep (fun b hb hc => hfl b hc (hf b hb))
      have hsz := own_cells hv hm hrep
      obtain ⟨l1, l2, l3⟩ := lay_ok (v := (a.eval x).cells) (cs := cs) (off := kk) (by rw [hsz, hz]; exact f2)
      have hr' := f3 (fun j => (lay (a.eval x).cells kk cs).getD j undef) (fun j hj => l2 j (by rw [hsz]; exact hj)) (fun j hj => l3 j (by rw [hsz]; exact hj))
      obtain ⟨st', fp', fl', m2, z2, cs2, fz2, g1, g2, g3, g4⟩ := fields_inv hA hp hS1 hr' (fun b hb => by rcases hb with hb | hb; exact .inl (hf b hb); exact .inr hb) (by rw [l1, hz]) h2
      refine ⟨st', fp', fl', m2, z2, cs2, fz2, g1, g2, ?_, g4⟩
      rw [List.map_cons, fill_cons (hp i u kk f1) hsz (by rw [hz]; exact f2)]
      exact g3
    · simp [RM.run] at h2

theorem agg_isV {t : Ty} {cs : Array Value} (ha : t.agg = true) (hz : cs.size = t.size) : isV t (.agg cs) := by
  unfold isV valOf
  rw [ha]
  simp only [if_true]
  congr 1
  apply Array.ext
  · simp [hz]
  · intro i h1 h2
    simp [cv, Value.cells, Array.getD, h1]

theorem strc_agg {t : Ty} (h : t.strc = true) : t.agg = true := by cases t <;> first | rfl | cases h

/-- the parts of a row -/
theorem parts_inv {α : Type} {Kk : α → St → Option R} {T : TypeId} {t : Ty} {n : Nat} (hA : AR env gh a V) : ∀ {ps : List (Nat × Operand)} {m : Option Md} {z : List t.I} {k : Option Md → List t.I → RM α} {st : St} {fp : Nat → Blks} {fl : Blks} {fs : Nat → Blks} {cs : Array Value},
    SR e F w st V fp fl → z.length = n → Disj fs → (∀ i b, fs i b → fl b) → (∀ mm, (m = none ∨ m = some mm) → ∀ i, i < n → rep F w t mm (z.getD i t.dflt) (fun j => cs.getD (i * t.size + j) undef) (fs i)) → cs.size = n * t.size →
    (rdParts env T t n ps m z k).run C st Kk = some res →
    ∃ st' fp' fl' m' z' cs' fs', (k m' z').run C st' Kk = some res ∧ SR e F w st' V fp' fl' ∧ Instr.fill (fun i => some (i * t.size, t.size)) cs (ps.map fun q => (q.1, a.eval q.2)) = some cs' ∧ z'.length = n ∧ Disj fs' ∧ (∀ i b, fs' i b → fl' b) ∧
      (∀ mm, (m' = none ∨ m' = some mm) → ∀ i, i < n → rep F w t mm (z'.getD i t.dflt) (fun j => cs'.getD (i * t.size + j) undef) (fs' i)) ∧ cs'.size = n * t.size ∧ (∀ mm, m = some mm → m' = some mm)
  | [], m, z, k, st, fp, fl, fs, cs, hS, hl, hdj, hf, hr, hz, h => ⟨st, fp, fl, m, z, cs, fs, h, hS, rfl, hl, hdj, hf, hr, hz, fun _ h => h⟩
  | (i, x) :: ps, m, z, k, st, fp, fl, fs, cs, hS, hl, hdj, hf, hr, hz, h => by
    simp only [rdParts, rdT] at h
    obtain ⟨u, mu, y, src, h1, hd, _⟩ := rdV_inv hS hA h
    obtain ⟨st1, fp1, fq, h2, hS1, hv, hm, hrep, hfl, _⟩ := take_inv hS hd h1
    have hsz := own_cells hv hm hrep
    split at h2
    · rename_i y' hc hi
      have hi' := blt_lt hi
      obtain ⟨eu, hy⟩ := castI_some hc
      subst eu
      simp only at hy
      subst hy
      have hle : i * u.size + u.size ≤ n * u.size := by
        calc i * u.size + u.size = (i + 1) * u.size := by rw [Nat.add_mul, Nat.one_mul]
          _ ≤ n * u.size := Nat.mul_le_mul_right _ hi'
      obtain ⟨l1, l2, l3⟩ := lay_ok (v := (a.eval x).cells) (cs := cs) (off := i * u.size) (by rw [hsz, hz]; exact hle)
      have hrest : ∀ m', (m = none ∨ m = some mu) → m' = some mu → (rdParts env T u n ps m' (z.set i y) k).run C st1 Kk = some res →
          ∃ st' fp' fl' m' z' cs' fs', (k m' z').run C st' Kk = some res ∧ SR e F w st' V fp' fl' ∧ Instr.fill (fun i => some (i * u.size, u.size)) cs (((i, x) :: ps).map fun q => (q.1, a.eval q.2)) = some cs' ∧ z'.length = n ∧ Disj fs' ∧ (∀ i b, fs' i b → fl' b) ∧
      (∀ mm, (m' = none ∨ m' = some mm) → ∀ i, i < n → rep F w u mm (z'.getD i u.dflt) (fun j => cs'.getD (i * u.size + j) undef) (fs' i)) ∧ cs'.size = n * u.size ∧ (∀ mm, m = some mm → m' = some mm) := by
        rintro m' hmm rfl h3
        obtain ⟨st', fp', fl', m2, z2, cs2, fs2, g1, g2, g3, g4, g5, g6, g7, g8, g9⟩ := parts_inv hA (fs := fun j b => (j ≠ i ∧ fs j b) ∨ (j = i ∧ fq b)) (cs := lay (a.eval x).cells (i * u.size) cs) hS1 (by simpa using hl)
          ⟨fun j j' hjj b hb hb' => by
            rcases hb with ⟨q1, hb⟩ | ⟨q1, hb⟩ <;> rcases hb' with ⟨q2, hb'⟩ | ⟨q2, hb'⟩
            · exact hdj.disj j j' hjj b hb hb'
            · exact hfl b hb' (hf j b hb)
            · exact hfl b hb (hf j' b hb')
            · exact hjj (q1.trans q2.symm)⟩
          (fun j b hb => by
            rcases hb with ⟨_, hb⟩ | ⟨_, hb⟩
            · exact .inl (hf j b hb)
            · exact .inr hb)
          (fun mm hmm' j hj => by
            rcases hmm' with hmm' | hmm'
            · cases hmm'
            cases hmm'
            by_cases hji : j = i
            · subst hji
              rw [getD_set_self (by rw [hl]; exact hj)]
              exact rep_fp (fun b hb => .inr ⟨rfl, hb⟩) (rep_cells (fun q hq => (l2 q (by rw [hsz]; exact hq)).symm) hrep)
            · rw [getD_set_other hji]
              refine rep_fp (fun b hb => .inl ⟨hji, hb⟩) (rep_cells (fun q hq => (l3 _ ?_).symm) (hr mu hmm j hj))
              rw [hsz]
              rcases Nat.lt_or_gt_of_ne hji with h9 | h9
              · left
                calc j * u.size + q < j * u.size + u.size := by omega
                  _ = (j + 1) * u.size := by rw [Nat.add_mul, Nat.one_mul]
                  _ ≤ i * u.size := Nat.mul_le_mul_right _ h9
              · right
                calc i * u.size + u.size = (i + 1) * u.size := by rw [Nat.add_mul, Nat.one_mul]
                  _ ≤ j * u.size := Nat.mul_le_mul_right _ h9
                  _ ≤ j * u.size + q := Nat.le_add_right _ _)
          (by rw [l1, hz]) h3
        refine ⟨st', fp', fl', m2, z2, cs2, fs2, g1, g2, ?_, g4, g5, g6, g7, g8, fun mm hq => ?_⟩
        · rw [List.map_cons, fill_cons (size := u.size) rfl hsz (by rw [hz]; exact hle)]
          exact g3
        · rcases hmm with hmm | hmm
          · rw [hmm] at hq; cases hq
          · rw [hmm] at hq; cases hq; exact g9 _ rfl
      split at h2
      · exact hrest _ (.inl rfl) rfl h2
      · rename_i m0
        split at h2
        · rename_i he
          have := Md.eqb_eq he
          subst this
          exact hrest _ (.inr rfl) rfl h2
        · simp [RM.run] at h2
    · simp [RM.run] at h2

end
end Go.Trm
