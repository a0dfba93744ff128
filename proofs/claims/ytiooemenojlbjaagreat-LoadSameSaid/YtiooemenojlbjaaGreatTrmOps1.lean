import Derived.Test.YtiooemenojlbjaaGreatTrmWt
set_option linter.unusedVariables false
set_option linter.unusedSimpArgs false
namespace Go.Trm

/-! ## Memory, cell by cell -/

theorem addr_add (b o j : Nat) : (⟨b, o, none⟩ : Addr).add j = ⟨b, o + j, none⟩ := by
  unfold Addr.add
  split
  · rename_i h; subst h; rfl
  · rfl

theorem cell_row {w : World} {b n : Nat} {wr : Bool} (h : holdsW w b n wr) {k : Nat} (hk : k < n) : w.cell? ⟨b, k, none⟩ = some (rowW w b 0 k) := by
  obtain ⟨cs, el, fz, h1, h2, _⟩ := h
  have h3 : k < cs.size := by omega
  simp [World.cell?, rowW, h1, rowOf, h3]

theorem not_frozen {w : World} {b n : Nat} (h : holdsW w b n true) {k : Nat} (hk : k < n) : w.frozen? ⟨b, k, none⟩ = false := by
  obtain ⟨cs, el, fz, h1, h2, h3⟩ := h
  have h4 := h3 rfl
  obtain ⟨lo, hi⟩ := fz
  simp only [World.frozen?, h1]
  simp only at h4
  simpa using fun h5 => Nat.le_of_not_lt fun h6 => by omega

section
variable {P : Program} {w : World} {t : Ty} {T : TypeId}

theorem run_isAgg (h : wt P t T = true) : (isAgg T).run P w = .ok t.agg w := by
  have h1 := wt_agg h
  cases hu : P.underlying T with
  | none => cases t <;> simp only [wt, Bool.and_eq_true] at h <;> rw [hu] at h <;> simp at h
  | some d =>
    rw [hu] at h1
    simp only [isAgg, Sem.run_bind, run_underlying hu, Result.andThen_ok]
    rw [← h1]
    cases d <;> rfl

theorem run_sizeOf (h : wt P t T = true) : (sizeOf T).run P w = .ok t.size w := by
  obtain ⟨i, z, h1, h2, _⟩ := wt_info h
  simp [sizeOf, typeInfo, h1, h2]

theorem run_zero (h : wt P t T = true) : (zeroValue T).run P w = .ok (valOf t (fun j => (dcells t).getD j undef)) w := by
  obtain ⟨i, z, h1, h2, h3, h4, h5, _⟩ := wt_info h
  simp [zeroValue, typeInfo, h1, h4, h5]

theorem run_loadVar {b o : Nat} {wr : Bool} (h : wt P t T = true) (hh : holdsW w b (o + t.size) wr) : (loadVar T ⟨b, o, none⟩).run P w = .ok (valOf t (rowW w b o)) w := by
  simp only [loadVar, Sem.run_bind, run_isAgg h, Result.andThen_ok]
  unfold valOf
  cases ha : t.agg with
  | true =>
    simp only [if_true, Sem.run_bind, run_sizeOf h, Result.andThen_ok]
    rw [run_loadCells w ⟨b, o, none⟩ t.size (rowW w b o) (fun j hj => by rw [addr_add, cell_row hh (by omega), ← rowW_at])]
    rfl
  | false =>
    have h1 := size_one ha
    simp only [Bool.false_eq_true, if_false, run_load]
    have := cell_row hh (k := o) (by omega)
    rw [this, rowW_at w b o 0, Nat.add_zero]

end

theorem dcells_one : ∀ (t : Ty) (v : Value), v ∈ dcells t → v.oneCell' = true := by
  intro t
  induction t with
  | pair a b iha ihb => intro v hv; simp only [dcells, List.mem_append] at hv; rcases hv with hv | hv; exact iha v hv; exact ihb v hv
  | arr n t ih => intro v hv; simp only [dcells, List.mem_flatten, List.mem_replicate] at hv; obtain ⟨l, ⟨_, rfl⟩, hv⟩ := hv; exact ih v hv
  | unit => intro v hv; simp [dcells] at hv
  | _ => intro v hv; simp only [dcells, List.mem_cons, List.not_mem_nil, or_false] at hv; subst hv; rfl

/-- the cells of right data are each of one cell -/
theorem rep_ones {F : Blks} {w : World} : ∀ {t : Ty} {m : Md} {x : t.I} {c : Cells} {fp : Blks}, rep F w t m x c fp → m.noJ = true → ∀ j, j < t.size → (c j).oneCell' = true := by
  intro t
  induction t with
  | int k => intro m x c fp h hm j hj; simp only [Ty.size] at hj; obtain rfl : j = 0 := by omega
             cases m <;> simp only [rep, Md.noJ, Bool.false_eq_true] at h hm <;> (rw [h.1]; rfl)
  | bool => intro m x c fp h hm j hj; simp only [Ty.size] at hj; obtain rfl : j = 0 := by omega
            cases m <;> simp only [rep, Md.noJ, Bool.false_eq_true] at h hm <;> (rw [h]; rfl)
  | str => intro m x c fp h hm j hj; simp only [Ty.size] at hj; obtain rfl : j = 0 := by omega
           cases m <;> simp only [rep, Md.noJ, Bool.false_eq_true] at h hm <;> (rw [h.1]; rfl)
  | sl e t ih => intro m x c fp h hm j hj; simp only [Ty.size] at hj; obtain rfl : j = 0 := by omega
                 cases m <;> simp only [rep, Md.noJ, Bool.false_eq_true] at h hm <;> (obtain ⟨A, cap, h, _⟩ := h; rw [h]; rfl)
  | ptr e t ih => intro m x c fp h hm j hj; simp only [Ty.size] at hj; obtain rfl : j = 0 := by omega
                  cases m <;> simp only [rep, Md.noJ, Bool.false_eq_true] at h hm <;> (obtain ⟨A, h, _⟩ := h; rw [h]; rfl)
  | unit => intro m x c fp h hm j hj; simp [Ty.size] at hj
  | pair a b iha ihb =>
    intro m x c fp h hm j hj
    obtain ⟨fa, fb, h1, h2, h3, ra, rb⟩ := rep_pair h
    have hm' : m.fst.noJ = true ∧ m.snd.noJ = true := by
      cases m <;> simp only [Md.noJ, Md.fst, Md.snd, Bool.and_eq_true, Bool.false_eq_true] at hm ⊢ <;> first | exact ⟨trivial, trivial⟩ | exact hm | exact ⟨hm, hm⟩
    simp only [Ty.size] at hj
    by_cases hlt : j < a.size
    · exact iha ra hm'.1 j hlt
    · have := ihb rb hm'.2 (j - a.size) (by omega)
      rwa [show a.size + (j - a.size) = j by omega] at this
  | arr n t ih =>
    intro m x c fp h hm j hj
    have hm' : m.el.noJ = true := by
      cases m <;> first | exact hm | cases hm
    have hj' : m ≠ .j := by rintro rfl; simp [Md.noJ] at hm
    have key : ∃ fs : Nat → Blks, ∀ i, i < n → rep F w t m.el (List.getD (x : List t.I) i t.dflt) (fun j => c (i * t.size + j)) (fs i) := by
      cases m with
      | j => exact absurd rfl hj'
      | _ => simp only [rep] at h; obtain ⟨hn, fs, _, h2, r⟩ := h; exact ⟨fs, r⟩
    obtain ⟨fs, r⟩ := key
    simp only [Ty.size] at hj
    have hs : 0 < t.size := by
      rcases Nat.eq_zero_or_pos t.size with h0 | h0
      · rw [h0] at hj; simp at hj
      · exact h0
    have h1 : j / t.size < n := Nat.div_lt_of_lt_mul (by rwa [Nat.mul_comm])
    have := ih (r _ h1) hm' (j % t.size) (Nat.mod_lt _ hs)
    rwa [Nat.mul_comm, Nat.div_add_mod] at this

theorem one_of {v : Value} (h : v.oneCell' = true) : one v := by cases v <;> first | rfl | cases h

theorem val_size {t : Ty} {v : Value} (h : isV t v) (h1 : t.agg = false → one v) : v.cells.size = t.size := by
  cases ha : t.agg with
  | true =>
    have : v = .agg ((List.range t.size).map (cv v)).toArray := by
      have := h; unfold isV valOf at this; rw [ha] at this; simpa using this
    rw [this]
    simp [Value.cells]
  | false =>
    have h2 : v.cells = #[v] := h1 ha
    rw [h2, size_one ha]
    rfl

/-- frozen data has no blocks of its own -/
theorem rep_s {F : Blks} {w : World} : ∀ {t : Ty} {x : t.I} {c : Cells} {fp fp' : Blks}, rep F w t .s x c fp → rep F w t .s x c fp' := by
  intro t
  induction t with
  | pair a b iha ihb =>
    intro x c fp fp' h
    simp only [rep, Md.fst, Md.snd] at h ⊢
    obtain ⟨fa, fb, h1, h2, h3, ra, rb⟩ := h
    exact ⟨fun _ => False, fun _ => False, fun _ h => h.elim, fun _ h => h.elim, fun _ h => h.elim, iha ra, ihb rb⟩
  | arr n t ih =>
    intro x c fp fp' h
    simp only [rep, Md.el] at h ⊢
    obtain ⟨hn, fs, h1, h2, r⟩ := h
    exact ⟨hn, fun _ _ => False, ⟨fun _ _ _ _ h => h.elim⟩, fun _ _ h => h.elim, fun i hi => ih (r i hi)⟩
  | _ => intro x c fp fp' h; simp only [rep] at h ⊢ <;> exact h

/-! ## Operands -/

/-- the calls that were deferred: at most one -/
def defOf : Value → List Deferred
  | .func f s c => [⟨.fn f c, s⟩]
  | _ => []

/-- the slots of this frame; those of others stay ('gh') -/
structure AR (env : Env) (gh : Nat → Value) (a : Act) (V : Nat → Value) : Prop where
  size : a.tmps.size = env.n
  tmps : ∀ i, i < env.n → a.tmps.getD i undef = V (env.b + i)
  defers : a.defers = (match env.df with | true => defOf (V (env.b + env.n)) | false => [])
  lim : env.b + env.n < gh0
  keep : ∀ i, i < env.b ∨ gh0 ≤ i → V i = gh i

structure EnvTy (P : Program) (env : Env) : Prop where
  ty : ∀ T t, env.ty T = some t → wt P t T = true
  eq : ∀ T t, env.eq T = true → env.ty T = some t → (eqT P t T && (!P.eqGuardType P.depth T && Nat.ble t.deep 9000)) = true

theorem Env.is_ok {P : Program} {env : Env} {T : TypeId} {t : Ty} (hE : EnvTy P env) (h : env.is T t = true) : wt P t T = true := by
  unfold Env.is at h
  split at h
  · rename_i t' h1; rw [← Ty.eqb_eq h]; exact hE.ty _ _ h1
  · cases h

/-- the data of a value -/
def DataX (F : Blks) (w : World) (st : St) (V : Nat → Value) (val : Value) (t : Ty) (m : Md) (y : t.I) : Src → Prop
  | none => isV t val ∧ m ≠ .j ∧ rep F w t m y (cv val) (fun _ => False)
  | some (r, p) => m ≠ .j ∧ ∃ t0 m0 x0, st r = .v t0 m0 x0 ∧ getP t0 m0 x0 p = some ⟨t, m, y⟩ ∧ ownP t0 m0 p ∧ inP t0 x0 p ∧ ∃ c' ad, rs w t0 (cv (V r)) none p = some (t, c', ad) ∧ val = valOf t c'

/-- all of what lies at a place, or a slice of it -/
inductive PartOf (c' : Cells) : (t : Ty) → t.I → t.I → Value → Prop
  | all (t : Ty) (y : t.I) : PartOf c' t y y (valOf t c')
  | cut (e : TypeId) (u : Ty) (y : List u.I) (lo hi : Int) (A : Option Addr) (cap : Nat) (h0 : c' 0 = .slice A y.length cap) (h1 : 0 ≤ lo ∧ lo ≤ hi ∧ hi ≤ (y.length : Int)) :
      PartOf c' (.sl e u) y (rng y lo hi) (cutVal A cap lo.toNat hi.toNat u.size)

def DataAt (F : Blks) (w : World) (st : St) (V : Nat → Value) (val : Value) (t : Ty) (m : Md) (y : t.I) : Src → Prop
  | none => isV t val ∧ m ≠ .j ∧ rep F w t m y (cv val) (fun _ => False)
  | some (r, p) => m ≠ .j ∧ ∃ t0 m0 x0, st r = .v t0 m0 x0 ∧ ∃ y0, getP t0 m0 x0 p = some ⟨t, m, y0⟩ ∧ ownP t0 m0 p ∧ inP t0 x0 p ∧ ∃ c' ad, rs w t0 (cv (V r)) none p = some (t, c', ad) ∧ PartOf c' t y0 y val

theorem DataX.at {F : Blks} {w : World} {st : St} {V : Nat → Value} {val : Value} {t : Ty} {m : Md} {y : t.I} {src : Src} (h : DataX F w st V val t m y src) : DataAt F w st V val t m y src := by
  cases src with
  | none => exact h
  | some q =>
    obtain ⟨r, p⟩ := q
    obtain ⟨hm, t0, m0, x0, h1, h2, h3, h4, c', ad, h5, h6⟩ := h
    exact ⟨hm, t0, m0, x0, h1, y, h2, h3, h4, c', ad, h5, by rw [h6]; exact .all t y⟩

theorem rng_length {β : Type} {l : List β} {lo hi : Int} (h : 0 ≤ lo ∧ lo ≤ hi ∧ hi ≤ (l.length : Int)) : (rng l lo hi).length = hi.toNat - lo.toNat := by
  simp only [rng, List.length_drop, List.length_take]; omega

theorem rng_getD {β : Type} {l : List β} {lo hi : Int} {d : β} {i : Nat} (h : 0 ≤ lo ∧ lo ≤ hi ∧ hi ≤ (l.length : Int)) (hi' : i < hi.toNat - lo.toNat) : (rng l lo hi).getD i d = l.getD (lo.toNat + i) d := by
  simp only [rng, List.getD_eq_getElem?_getD, List.getElem?_drop, List.getElem?_take]
  rw [if_pos (by omega)]

/-- a slice of a slice, as data -/
theorem rep_cut {F : Blks} {w : World} {e : TypeId} {u : Ty} {m : Md} {y : List u.I} {lo hi : Int} {A : Option Addr} {cap : Nat} {c : Cells} {fq : Blks} (hm : m ≠ .j) (hr : rep F w (.sl e u) m y c fq) (h0 : c 0 = .slice A y.length cap) (h : 0 ≤ lo ∧ lo ≤ hi ∧ hi ≤ (y.length : Int)) :
    rep F w (.sl e u) m (rng y lo hi) (cv (cutVal A cap lo.toNat hi.toNat u.size)) fq := by
  have hlen := rng_length (l := y) h
  have hcv : cv (cutVal A cap lo.toNat hi.toNat u.size) 0 = cutVal A cap lo.toNat hi.toNat u.size := rfl
  have hA' : ∀ A', A = some A' → 0 < cap → A'.spot = none → (if cap = lo.toNat then A else A.map (·.add (lo.toNat * u.size))) = some (if cap = lo.toNat then A' else ⟨A'.block, A'.off + lo.toNat * u.size, none⟩) := by
    rintro ⟨b, k, sp⟩ rfl _ hsp
    simp only at hsp
    subst hsp
    split <;> simp [addr_add]
  cases m with
  | j => exact absurd rfl hm
  | p m1 m2 =>
    simp only [rep] at hr ⊢
    obtain ⟨A1, cap1, q1, q2, q3, q4, q5⟩ := hr
    rw [h0] at q1
    obtain ⟨rfl, _, rfl⟩ : A = A1 ∧ y.length = y.length ∧ cap = cap1 := by simpa using q1
    cases A with
    | some A => exact (q5 A rfl).2.elim
    | none =>
      have hc := q4 rfl
      refine ⟨none, cap - lo.toNat, ?_, ?_, by omega, fun _ => by omega, nofun⟩
      · rw [hcv, hlen]; unfold cutVal; simp
      · rw [hlen]; omega
  | s =>
    simp only [rep] at hr ⊢
    obtain ⟨A1, cap1, q1, q2, q3, q4, q5⟩ := hr
    rw [h0] at q1
    obtain ⟨rfl, _, rfl⟩ : A = A1 ∧ y.length = y.length ∧ cap = cap1 := by simpa using q1
    refine ⟨(if cap = lo.toNat then A else A.map (·.add (lo.toNat * u.size))), cap - lo.toNat, ?_, ?_, ?_, ?_, fun A' hA => ?_⟩
    · rw [hcv, hlen]; rfl
    · rw [hlen]; omega
    · omega
    · intro hn
      cases A with
      | none => have := q4 rfl; omega
      | some A =>
        split at hn
        · cases hn
        · simp at hn
    · cases A with
      | none => split at hA <;> simp at hA
      | some A =>
        obtain ⟨hsp, q6, q7⟩ := q5 A rfl
        by_cases hcz : cap = 0
        · have hcl : cap = lo.toNat := by omega
          rw [if_pos hcl] at hA
          cases hA
          have h0 : hi.toNat - lo.toNat = 0 := by omega
          refine ⟨fun hc => by omega, .inl (by rw [hlen, h0, Nat.zero_mul]), fun i hi => ?_⟩
          rw [hlen] at hi; omega
        replace hsp := hsp (by omega)
        obtain ⟨b, k, sp⟩ := A
        simp only at hsp
        subst hsp
        by_cases hcl : cap = lo.toNat
        · rw [if_pos hcl] at hA
          cases hA
          have h0 : hi.toNat - lo.toNat = 0 := by omega
          refine ⟨fun _ => rfl, .inl (by rw [hlen, h0, Nat.zero_mul]), fun i hi => ?_⟩
          rw [hlen] at hi; omega
        · rw [if_neg hcl] at hA
          simp only [Option.map_some, Option.some.injEq, addr_add] at hA
          subst hA
          refine ⟨fun _ => rfl, ?_, fun i hi => ?_⟩
          · rcases q6 with q6 | ⟨q6, q8⟩
            · left
              rcases Nat.mul_eq_zero.1 q6 with q6 | q6
              · rw [hlen]
                have : hi.toNat - lo.toNat = 0 := by omega
                rw [this, Nat.zero_mul]
              · rw [q6, Nat.mul_zero]
            · right
              refine ⟨q6, ?_⟩
              obtain ⟨cs, el, fz, p1, p2, p3⟩ := q8
              refine ⟨cs, el, fz, p1, ?_, p3⟩
              simp only at p2 ⊢
              rw [hlen]
              have : (lo.toNat + (hi.toNat - lo.toNat)) * u.size ≤ y.length * u.size := Nat.mul_le_mul_right _ (by omega)
              rw [Nat.add_mul] at this
              omega
          · rw [hlen] at hi
            rw [rng_getD h hi]
            have := q7 (lo.toNat + i) (by omega)
            simp only at this ⊢
            rwa [Nat.add_mul, ← Nat.add_assoc] at this
  | o m =>
    simp only [rep] at hr ⊢
    obtain ⟨A1, cap1, q1, q2, q3, q4, q5⟩ := hr
    rw [h0] at q1
    obtain ⟨rfl, _, rfl⟩ : A = A1 ∧ y.length = y.length ∧ cap = cap1 := by simpa using q1
    refine ⟨(if cap = lo.toNat then A else A.map (·.add (lo.toNat * u.size))), cap - lo.toNat, ?_, ?_, ?_, ?_, fun A' hA => ?_⟩
    · rw [hcv, hlen]; rfl
    · rw [hlen]; omega
    · omega
    · intro hn
      cases A with
      | none => have := q4 rfl; omega
      | some A =>
        split at hn
        · cases hn
        · simp at hn
    · cases A with
      | none => split at hA <;> simp at hA
      | some A =>
        obtain ⟨hsp, q6, q7, fs, q8, q9, q10⟩ := q5 A rfl
        have hzero : hi.toNat - lo.toNat = 0 → A' = A → cap - lo.toNat = 0 → (0 < cap - lo.toNat → A'.spot = none) ∧ fq A'.block ∧ holdsW w A'.block (A'.off + (cap - lo.toNat) * u.size) true ∧ ∃ fs : Nat → Blks, Disj fs ∧ (∀ i b, fs i b → fq b ∧ b ≠ A'.block) ∧
            ∀ i, i < (rng y lo hi).length → rep F w u m ((rng y lo hi).getD i u.dflt) (rowW w A'.block (A'.off + i * u.size)) (fs i) := by
          rintro hz rfl hz2
          refine ⟨fun hc => by omega, q6, ?_, fun _ _ => False, ⟨fun _ _ _ _ hb => hb.elim⟩, fun _ _ hb => hb.elim, fun i hi => ?_⟩
          · obtain ⟨cs, el, fz, p1, p2, p3⟩ := q7
            exact ⟨cs, el, fz, p1, by rw [hz2]; omega, p3⟩
          · rw [hlen] at hi; omega
        by_cases hcl : cap = lo.toNat
        · rw [if_pos hcl] at hA
          cases hA
          exact hzero (by omega) rfl (by omega)
        replace hsp := hsp (by omega)
        obtain ⟨b, k, sp⟩ := A
        simp only at hsp
        subst hsp
        rw [if_neg hcl] at hA
        simp only [Option.map_some, Option.some.injEq, addr_add] at hA
        subst hA
        simp only at q6 q7 q9 q10 ⊢
        refine ⟨fun _ => trivial, q6, ?_, fun i => fs (lo.toNat + i), ⟨fun i j hij b hb hb' => q8.disj _ _ (by omega) b hb hb'⟩, fun i b hb => q9 _ b hb, fun i hi => ?_⟩
        · obtain ⟨cs, el, fz, p1, p2, p3⟩ := q7
          refine ⟨cs, el, fz, p1, ?_, p3⟩
          have : (lo.toNat + (cap - lo.toNat)) * u.size = cap * u.size := by congr 1; omega
          rw [Nat.add_mul] at this
          omega
        · rw [hlen] at hi
          rw [rng_getD h hi]
          have := q10 (lo.toNat + i) (by omega)
          rwa [Nat.add_mul, ← Nat.add_assoc] at this

theorem PartOf.rep {F : Blks} {w : World} {c' : Cells} {t : Ty} {m : Md} {y0 y : t.I} {val : Value} {fq : Blks} (h : PartOf c' t y0 y val) (hm : m ≠ .j) (hr : Trm.rep F w t m y0 c' fq) : isV t val ∧ Trm.rep F w t m y (cv val) fq := by
  cases h with
  | all =>
    have h1' : t.agg = false → one (c' 0) := fun ha => rep_one hr hm ha
    exact ⟨isV_valOf h1', rep_cells (fun j hj => (valOf_cv h1' j hj).symm) hr⟩
  | cut e u y lo hi A cap h0 h1 => exact ⟨by simp only [isV, valOf, Ty.agg, Bool.false_eq_true, if_false]; rfl, rep_cut hm hr h0 h1⟩

section
variable {P : Program} {env : Env} {e : Entry} {F : Blks} {w : World} {st : St} {V : Nat → Value} {fp : Nat → Blks} {fl : Blks} {a : Act} {T : TypeId} {x : Operand} {α R : Type} {K : α → St → Option R} {res : R} {C : Cx R} {gh : Nat → Value}

theorem rdO_inv {k : SV → RM α} (h : (rdO env T x k).run C st K = some res) :
    ∃ sv, (k sv).run C st K = some res ∧ ((∃ t, x = .tmp t ∧ t < env.n ∧ sv = st (env.b + t)) ∨ (∃ c, x = .const c ∧ sv = cst env T c) ∨ (∃ f, x = .func f ∧ sv = .fn f [] [])) := by
  unfold rdO at h
  split at h
  · split at h
    · rename_i t hb
      exact ⟨_, h, .inl ⟨_, rfl, Nat.lt_of_lt_of_le (Nat.lt_succ_self _) (Nat.le_of_ble_eq_true hb), rfl⟩⟩
    · simp [RM.run] at h
  · exact ⟨_, h, .inr (.inl ⟨_, rfl, rfl⟩)⟩
  · exact ⟨_, h, .inr (.inr ⟨_, rfl, rfl⟩)⟩
  · simp [RM.run] at h

theorem inK_has {k : IntKind} {n : Int} (h : inK k n = true) : k.has n := by
  simp only [inK, Bool.and_eq_true, decide_eq_true_eq] at h
  exact h

/-- a constant's data -/
theorem cst_data {c : Value} {t : Ty} {m : Md} {y : t.I} (h : cst env T c = .v t m y) : isV t c ∧ m ≠ .j ∧ rep F w t m y (cv c) (fun _ => False) := by
  unfold cst at h
  split at h
  · split at h
    · rename_i hk
      cases h
      refine ⟨rfl, nofun, ?_⟩
      simp only [rep]
      exact ⟨rfl, inK_has hk⟩
    · cases h
  · cases h
    exact ⟨rfl, nofun, by simp only [rep]; rfl⟩
  · split at h
    · rename_i hz
      cases h
      refine ⟨rfl, nofun, ?_⟩
      simp only [rep]
      have hz' := Nat.le_of_ble_eq_true hz
      unfold most at hz'
      exact ⟨rfl, by omega⟩
    · cases h
  · split at h
    · cases h
      refine ⟨rfl, nofun, ?_⟩
      simp only [rep]
      exact ⟨none, 0, rfl, Nat.le_refl _, by decide, fun _ => rfl, nofun⟩
    · cases h
  · split at h
    · cases h
      refine ⟨rfl, nofun, ?_⟩
      simp only [rep]
      exact ⟨none, rfl, rfl⟩
    · cases h
  · cases h

theorem derefX_inv {k : (t : Ty) → Md → t.I → Src → RM α} (hS : SR e F w st V fp fl) (hA : AR env gh a V) {sv : SV} (hx : (∃ t, x = .tmp t ∧ t < env.n ∧ sv = st (env.b + t)) ∨ (∃ c, x = .const c ∧ sv = cst env T c) ∨ (∃ f, x = .func f ∧ sv = .fn f [] [])) (h1 : (derefX sv (self env x) k).run C st K = some res) :
    ∃ t m y src, (k t m y src).run C st K = some res ∧ DataX F w st V (a.eval x) t m y src ∧ (src = none ∨ ∃ s, x = .tmp s) := by
  rcases hx with ⟨s, rfl, hs, rfl⟩ | ⟨c, rfl, rfl⟩ | ⟨f, rfl, rfl⟩
  · have hev : a.eval (.tmp s) = V (env.b + s) := hA.tmps s hs
    have hsv := hS.sv (env.b + s)
    rw [hev]
    unfold derefX at h1
    split at h1
    · rename_i t y hst
      rw [hst] at hsv
      exact ⟨t, .s, y, none, h1, ⟨hsv.1 nofun, nofun, rep_s hsv.2⟩, .inl rfl⟩
    · simp [RM.run] at h1
    · rename_i t m y hm1 hm2 hst
      have hm : m ≠ .j := fun hc => by subst hc; exact hm2 rfl
      rw [hst] at hsv
      refine ⟨t, m, y, some (env.b + s, []), h1, ⟨hm, t, m, y, hst, by simp [getP], by simp [ownP], by simp [inP], cv (V (env.b + s)), none, by simp [rs], hsv.1 hm⟩, .inr ⟨s, rfl⟩⟩
    · rename_i r p hst
      rw [hst] at hsv
      simp only [RM.run] at h1
      split at h1
      · rename_i t0 m0 x0 hr
        obtain ⟨a1, a2, u1, c1, ad, a3, a4⟩ := hsv t0 m0 x0 hr
        have hrr := hS.sv r
        rw [hr] at hrr
        split at h1
        · rename_i u y hg
          obtain ⟨c2, ad2, fp2, b1, b2, b3⟩ := rep_get (ad := none) hrr.2 hg a2 nofun
          rw [a3] at b1
          simp only [Option.some.injEq, Prod.mk.injEq] at b1
          obtain ⟨rfl, rfl, rfl⟩ := b1
          have h1' : u1.agg = false → one (c1 0) := fun ha => rep_one b2 nofun ha
          refine ⟨u1, .s, y, none, h1, ⟨?_, nofun, ?_⟩, .inl rfl⟩
          · rw [a4]; exact isV_valOf h1'
          · rw [a4]; exact rep_s (rep_cells (fun j hj => (valOf_cv h1' j hj).symm) b2)
        · simp [RM.run] at h1
        · rename_i u mu y hm1 hm2 hg
          have hm : mu ≠ .j := fun hc => by subst hc; exact hm2 rfl
          obtain ⟨c2, ad2, fp2, b1, b2, b3⟩ := rep_get (ad := none) hrr.2 hg a2 hm
          rw [a3] at b1
          simp only [Option.some.injEq, Prod.mk.injEq] at b1
          obtain ⟨rfl, rfl, rfl⟩ := b1
          exact ⟨u1, mu, y, some (r, p), h1, ⟨hm, t0, m0, x0, hr, hg, a1, a2, c1, ad, a3, a4⟩, .inr ⟨s, rfl⟩⟩
        · simp [RM.run] at h1
      · simp [RM.run] at h1
    · simp [RM.run] at h1
  · have hev : a.eval (.const c) = c := rfl
    rw [hev]
    unfold derefX at h1
    split at h1
    · rename_i t y hst
      exact ⟨t, .s, y, none, h1, cst_data hst, .inl rfl⟩
    · simp [RM.run] at h1
    · rename_i t m y hm1 hm2 hst
      exact ⟨t, m, y, none, h1, cst_data hst, .inl rfl⟩
    · rename_i r p hst
      unfold cst at hst
      (repeat' split at hst) <;> cases hst
    · simp [RM.run] at h1
  · simp [derefX, RM.run] at h1

theorem rdX_inv {k : (t : Ty) → Md → t.I → Src → RM α} (hS : SR e F w st V fp fl) (hA : AR env gh a V) (h : (rdX env T x k).run C st K = some res) :
    ∃ t m y src, (k t m y src).run C st K = some res ∧ DataX F w st V (a.eval x) t m y src ∧ (src = none ∨ ∃ s, x = .tmp s) := by
  obtain ⟨sv, h1, hx⟩ := rdO_inv h
  exact derefX_inv hS hA hx h1

theorem deref_inv {k : (t : Ty) → Md → t.I → Src → RM α} (hS : SR e F w st V fp fl) (hA : AR env gh a V) {sv : SV} (hx : (∃ t, x = .tmp t ∧ t < env.n ∧ sv = st (env.b + t)) ∨ (∃ c, x = .const c ∧ sv = cst env T c) ∨ (∃ f, x = .func f ∧ sv = .fn f [] [])) (h1 : (deref sv (self env x) k).run C st K = some res) :
    ∃ t m y src, (k t m y src).run C st K = some res ∧ DataAt F w st V (a.eval x) t m y src ∧ (src = none ∨ ∃ s, x = .tmp s) ∧ ((∀ r p l h, sv ≠ .sub r p l h) → DataX F w st V (a.eval x) t m y src) := by
  unfold deref at h1
  split at h1
  · rename_i r p lo hi
    rcases hx with ⟨s, rfl, hs, h3⟩ | ⟨c, rfl, h3⟩ | ⟨f, rfl, h3⟩
    · have hev : a.eval (.tmp s) = V (env.b + s) := hA.tmps s hs
      have hsv := hS.sv (env.b + s)
      rw [← h3] at hsv
      rw [hev]
      simp only [RM.run] at h1
      split at h1
      · rename_i t0 m0 x0 hr
        obtain ⟨a1, a2, u1, c1, ad, a3, e0, u0, A, n, cap, rfl, b1, b2, b3, b4, b5⟩ := hsv t0 m0 x0 hr
        have hrr := hS.sv r
        rw [hr] at hrr
        have hlen : ∀ {m : Md} {y : List u0.I} {fq : Blks}, m ≠ .j → rep F w (.sl e0 u0) m y c1 fq → c1 0 = .slice A y.length cap ∧ n = y.length := by
          intro m y fq hm hr
          have : ∃ A' cap', c1 0 = .slice A' y.length cap' := by cases m <;> simp only [rep] at hr <;> first | exact absurd rfl hm | (obtain ⟨A', cap', q, _⟩ := hr; exact ⟨A', cap', q⟩)
          obtain ⟨A', cap', q⟩ := this
          rw [b1] at q
          simp only [Value.slice.injEq] at q
          obtain ⟨rfl, rfl, rfl⟩ := q
          exact ⟨b1, rfl⟩
        split at h1
        · rename_i e1 u mu y hg
          split at h1
          · obtain ⟨c2, ad2, fp2, d1, d2, d3⟩ := rep_get (ad := none) hrr.2 hg a2 nofun
            rw [a3] at d1
            simp only [Option.some.injEq, Prod.mk.injEq] at d1
            obtain ⟨d0, rfl, rfl⟩ := d1
            cases d0
            obtain ⟨k1, hn⟩ := hlen (m := .s) (y := y) nofun d2
            subst hn
            refine ⟨_, .s, _, none, h1, ⟨?_, nofun, ?_⟩, .inl rfl, fun hc => absurd rfl (hc _ _ _ _)⟩
            · rw [b5]; rfl
            · rw [b5]; exact rep_s (rep_cut nofun d2 k1 ⟨b2, b3, b4⟩)
          · simp [RM.run] at h1
          · rename_i hm1 hm2
            have hm : mu ≠ .j := fun hc => hm2 hc
            obtain ⟨c2, ad2, fp2, d1, d2, d3⟩ := rep_get (ad := none) hrr.2 hg a2 hm
            rw [a3] at d1
            simp only [Option.some.injEq, Prod.mk.injEq] at d1
            obtain ⟨d0, rfl, rfl⟩ := d1
            cases d0
            obtain ⟨k1, hn⟩ := hlen (y := y) hm d2
            subst hn
            refine ⟨_, mu, _, some (r, p), h1, ⟨hm, t0, m0, x0, hr, y, hg, a1, a2, c1, ad, a3, ?_⟩, .inr ⟨s, rfl⟩, fun hc => absurd rfl (hc _ _ _ _)⟩
            rw [b5]
            exact .cut _ _ y lo hi A cap k1 ⟨b2, b3, b4⟩
        · simp [RM.run] at h1
      · simp [RM.run] at h1
    · unfold cst at h3; (repeat' split at h3) <;> cases h3
    · cases h3
  · obtain ⟨t, m, y, src, q1, q2, q3⟩ := derefX_inv hS hA hx h1
    exact ⟨t, m, y, src, q1, q2.at, q3, fun _ => q2⟩

theorem rdV_inv {k : (t : Ty) → Md → t.I → Src → RM α} (hS : SR e F w st V fp fl) (hA : AR env gh a V) (h : (rdV env T x k).run C st K = some res) :
    ∃ t m y src, (k t m y src).run C st K = some res ∧ DataAt F w st V (a.eval x) t m y src ∧ (src = none ∨ ∃ s, x = .tmp s) := by
  obtain ⟨sv, h1, hx⟩ := rdO_inv h
  obtain ⟨t, m, y, src, q1, q2, q3, _⟩ := deref_inv hS hA hx h1
  exact ⟨t, m, y, src, q1, q2, q3⟩

/-- what is at hand of data -/
theorem DataAt.rep {val : Value} {t : Ty} {m : Md} {y : t.I} {src : Src} (hS : SR e F w st V fp fl) (h : DataAt F w st V val t m y src) :
    isV t val ∧ m ≠ .j ∧ ∃ fq : Blks, Trm.rep F w t m y (cv val) fq ∧ (∀ b, fq b → ∃ r p, src = some (r, p) ∧ fp r b) := by
  cases src with
  | none => exact ⟨h.1, h.2.1, _, h.2.2, fun _ h => h.elim⟩
  | some q =>
    obtain ⟨r, p⟩ := q
    obtain ⟨hm, t0, m0, x0, h1, y0, h2, h3, h4, c', ad, h5, h6⟩ := h
    have hrr := hS.sv r
    rw [h1] at hrr
    obtain ⟨c2, ad2, fp2, b1, b2, b3⟩ := rep_get (ad := none) hrr.2 h2 h4 hm
    rw [h5] at b1
    simp only [Option.some.injEq, Prod.mk.injEq, true_and] at b1
    obtain ⟨rfl, rfl⟩ := b1
    obtain ⟨k1, k2⟩ := h6.rep hm b2
    exact ⟨k1, hm, fp2, k2, fun b hb => ⟨r, p, rfl, b3 b hb⟩⟩
theorem DataX.rep {val : Value} {t : Ty} {m : Md} {y : t.I} {src : Src} (hS : SR e F w st V fp fl) (h : DataX F w st V val t m y src) :
    isV t val ∧ m ≠ .j ∧ ∃ fq : Blks, Trm.rep F w t m y (cv val) fq ∧ (∀ b, fq b → ∃ r p, src = some (r, p) ∧ fp r b) := h.at.rep hS

end
end Go.Trm
