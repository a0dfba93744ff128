import Derived.Test.YtiooemenojlbjaaGreatTrmRun
set_option linter.unusedVariables false
set_option linter.unusedSimpArgs false
namespace Go.Trm

def pks : List (Ty × Md) → List PK
  | [] => []
  | k :: ks => .val k.1 k.2 :: pks ks

def toDR : (ks : List (Ty × Md)) → DI (pks ks) → DR ks
  | [], _ => ()
  | _ :: ks, d => (d.1, toDR ks d.2)

/-- the slots of the arguments; a pointer that is handed over lies in a slot of its own, that is none of the program's -/
def initS : Nat → (ks : List PK) → DI ks → List SV
  | _, [], _ => []
  | n, .val t m :: ks, d => .v t m d.1 :: initS (n + 1) ks d.2
  | n, .fn f :: ks, d => .fn f [] [] :: initS (n + 1) ks d.2
  | n, .ref _ _ _ :: ks, d => .al (gh0 + n) [.der] :: initS (n + 1) ks d.2
def ghS : (ks : List PK) → DI ks → List SV
  | [], _ => []
  | .val _ _ :: ks, d => .un :: ghS ks d.2
  | .fn _ :: ks, d => .un :: ghS ks d.2
  | .ref t m _ :: ks, d => .v (.ptr 0 t) (.o m) (some d.1) :: ghS ks d.2

/-- how it begins -/
def St.start (ks : List PK) (d : DI ks) : St := fun i => match Nat.ble gh0 i with
  | true => (ghS ks d).getD (i - gh0) .un
  | false => (initS 0 ks d).getD i .un

/-- what the pointers point to in the end -/
def backS {R : Type} : (ks : List PK) → Nat → St → (DB ks → Option R) → Option R
  | [], _, _, K => K ()
  | .val _ _ :: ks, n, st, K => backS ks (n + 1) st K
  | .fn _ :: ks, n, st, K => backS ks (n + 1) st K
  | .ref t _ m' :: ks, n, st, K => match st (gh0 + n) with
    | .v (.ptr _ u) mu y => match (y : Option u.I) with
      | some c => match castI u t c, mu.eqb (.o m') with
        | some c', true => backS ks (n + 1) st fun b => K (c', b)
        | _, _ => none
      | none => none
    | _ => none

/-- what the pointers point to gets the mode that is told of it -/
def meltRefs {α : Type} : List PK → Nat → RM α → RM α
  | [], _, k => k
  | .val _ _ :: ks, n, k => meltRefs ks (n + 1) k
  | .fn _ :: ks, n, k => meltRefs ks (n + 1) k
  | .ref _ _ m' :: ks, n, k => .get (gh0 + n) fun w => match w with
    | .v (.ptr T u) mu y => match mu.eqb (.o m') with
      | true => meltRefs ks (n + 1) k
      | false => match (Md.o m').le mu with
        | true => take (some (gh0 + n, [])) (setS (gh0 + n) (.v (.ptr T u) (.o m') y) (meltRefs ks (n + 1) k))
        | false => .fail
    | _ => .fail

/-- results that lie in boxes are taken out of them -/
def uncell {α : Type} (env : Env) : List (Nat × TypeId) → RM α → RM α
  | [], k => k
  | (r, T) :: cs, k => match cs.all (fun q => !(Nat.beq r q.1)) && Nat.blt r env.n with
    | true => .get (env.b + r) fun w => match w with
      | .v (.ptr _ t) (.o m) y => match (y : Option t.I) with
        | some c => match env.is T t && !m.isJ with
          | true => .kill (env.b + r) [] (.put (env.b + r) (.v t m c) (uncell env cs k))
          | false => .fail
        | none => .fail
      | _ => .fail
    | false => .fail

def toRV (q : Nat × Option TypeId) : ResultVar := match q.2 with
  | none => .tmp q.1
  | some T => .cell q.1 T
def cellsOf : List (Nat × Option TypeId) → List (Nat × TypeId)
  | [] => []
  | (_, none) :: l => cellsOf l
  | (r, some T) :: l => (r, T) :: cellsOf l
def tmpsOf : List (Nat × Option TypeId) → List Nat
  | [] => []
  | q :: l => q.1 :: tmpsOf l

def panI : (o : Option (TypeId × Ty)) → PanV → Option (PI o)
  | none, _ => none
  | some q, p => match Nat.beq q.1 p.T with
    | true => castI p.t q.2 p.x
    | false => none
theorem panI_inv {o : Option (TypeId × Ty)} {p : PanV} {y : PI o} (h : panI o p = some y) : PI.pan o y = p := by
  cases o with
  | none => cases h
  | some q =>
    simp only [panI] at h
    split at h
    · rename_i hb
      obtain ⟨T, t⟩ := q
      obtain ⟨T', t', x⟩ := p
      simp only at h hb
      obtain ⟨eu, hy⟩ := castI_some h
      subst eu
      simp only at hy
      subst hy
      rw [← Nat.eq_of_beq_eq_true hb]
      rfl
    · cases h

/-- how it ends: the results are taken over -/
noncomputable def retK {R : Type} (env : Env) (ins : List PK) (ks : List (Ty × Md)) (rs : List (Nat × Option TypeId)) (pn : Option (TypeId × Ty)) (K : DR ks → DB ins → Option R) (Kp : PI pn → DB ins → Option R) : Ex → St → Option R
  | .exit _, _ => none
  | .pan p, st => match panI pn p with
    | some y => (meltRefs ins 0 (.ret ())).run Cx.no st fun _ st => backS ins 0 st fun b => Kp y b
    | none => none
  | _, st => (uncell env (cellsOf rs) (gather env false (pks ks) ((tmpsOf rs).map Operand.tmp) [] fun d _ _ => meltRefs ins 0 (.ret (toDR ks d)))).run Cx.no st fun r st => backS ins 0 st fun b => K r b

theorem initS_len : ∀ {n : Nat} {ks : List PK} {d : DI ks}, (initS n ks d).length = ks.length
  | _, [], _ => rfl
  | _, .val _ _ :: _, _ => by simp [initS, initS_len]
  | _, .fn _ :: _, _ => by simp [initS, initS_len]
  | _, .ref _ _ _ :: _, _ => by simp [initS, initS_len]
theorem ghS_len : ∀ {ks : List PK} {d : DI ks}, (ghS ks d).length = ks.length
  | [], _ => rfl
  | .val _ _ :: _, _ => by simp [ghS, ghS_len]
  | .fn _ :: _, _ => by simp [ghS, ghS_len]
  | .ref _ _ _ :: _, _ => by simp [ghS, ghS_len]

def refAt (ks : List PK) (i : Nat) : Bool := match ks[i]? with
  | some (.ref _ _ _) => true
  | _ => false

theorem args_len {F : Blks} {w : World} : ∀ {ks : List PK} {d : DI ks} {vs : List Value} {fps : Nat → Blks}, ArgsR F w ks d vs fps → vs.length = ks.length
  | [], _, _, _, h => by simp only [ArgsR] at h; subst h; rfl
  | .val _ _ :: _, _, _, _, ⟨v, vs', h1, _, _, _, h5⟩ => by subst h1; simp [args_len h5]
  | .fn _ :: _, _, _, _, ⟨v, vs', h1, _, h5⟩ => by subst h1; simp [args_len h5]
  | .ref _ _ _ :: _, _, _, _, ⟨v, vs', h1, _, _, h5⟩ => by subst h1; simp [args_len h5]

theorem al_of {F : Blks} {w : World} {st : St} {V : Nat → Value} {r : Nat} {v : Value} {t : Ty} {m : Md} {y : t.I} {fq : Blks} (hst : st r = .v (.ptr 0 t) (.o m) (some y)) (hV : V r = v) (hv : isV (.ptr 0 t) v) (hr : rep F w (.ptr 0 t) (.o m) (some y) (cv v) fq) : AlOk w st V r [.der] v := by
  intro t0 m0 x0 h0
  rw [hst] at h0
  cases h0
  simp only [rep] at hr
  obtain ⟨A, e1, ad, rfl, hsp, e2, e3, f, e4, e5⟩ := hr
  obtain ⟨b, k, sp⟩ := ad
  simp only at hsp
  subst hsp
  refine ⟨rfl, by simp [ownP], by simp [inP], t, rowW w b k, b, k, ?_, ?_⟩
  · rw [hV]; simp only [rs, e1]
  · have h2 : v = valOf (.ptr 0 t) (cv v) := hv
    rw [h2]
    simp only [valOf, Ty.agg, Bool.false_eq_true, if_false]
    exact e1

theorem args_sv {F : Blks} {w : World} {st : St} {V : Nat → Value} : ∀ {n : Nat} {ks : List PK} {d : DI ks} {vs : List Value} {fps : Nat → Blks} {i : Nat} {v : Value}, ArgsR F w ks d vs fps → vs[i]? = some v →
    (∀ j t m x, (ghS ks d)[j]? = some (.v t m x) → st (gh0 + n + j) = .v t m x) → (∀ j u, vs[j]? = some u → V (gh0 + n + j) = u) → svR F w st V (fps i) v ((initS n ks d).getD i .un)
  | _, [], _, vs, _, i, v, h, hv, _, _ => by simp only [ArgsR] at h; subst h; simp at hv
  | n, .val t m :: ks, d, vs, fps, i, v, ⟨v0, vs', h1, h2, h3, h4, h5⟩, hv, hg, hV => by
    subst h1
    cases i with
    | zero =>
      simp only [List.getElem?_cons_zero, Option.some.injEq] at hv
      subst hv
      exact ⟨fun _ => h2, h4⟩
    | succ i =>
      simp only [List.getElem?_cons_succ] at hv
      have := args_sv (n := n + 1) (i := i) h5 hv (fun j t m x hj => by
        rw [show gh0 + (n + 1) + j = gh0 + n + (j + 1) by omega]
        exact hg (j + 1) t m x (by simpa [ghS] using hj)) (fun j u hj => by
        rw [show gh0 + (n + 1) + j = gh0 + n + (j + 1) by omega]
        exact hV (j + 1) u (by simpa using hj))
      simpa [initS] using this
  | n, .fn f :: ks, d, vs, fps, i, v, ⟨v0, vs', h1, h2, h5⟩, hv, hg, hV => by
    subst h1
    cases i with
    | zero =>
      simp only [List.getElem?_cons_zero, Option.some.injEq] at hv
      subst hv
      exact ⟨[], [], h2, ⟨rfl, fun k q hq => by simp at hq⟩, ⟨rfl, fun k q hq => by simp at hq⟩⟩
    | succ i =>
      simp only [List.getElem?_cons_succ] at hv
      have := args_sv (n := n + 1) (i := i) h5 hv (fun j t m x hj => by
        rw [show gh0 + (n + 1) + j = gh0 + n + (j + 1) by omega]
        exact hg (j + 1) t m x (by simpa [ghS] using hj)) (fun j u hj => by
        rw [show gh0 + (n + 1) + j = gh0 + n + (j + 1) by omega]
        exact hV (j + 1) u (by simpa using hj))
      simpa [initS] using this
  | n, .ref t m m' :: ks, d, vs, fps, i, v, ⟨v0, vs', h1, h2, h4, h5⟩, hv, hg, hV => by
    subst h1
    cases i with
    | zero =>
      simp only [List.getElem?_cons_zero, Option.some.injEq] at hv
      subst hv
      exact al_of (hg 0 _ _ _ rfl) (hV 0 _ rfl) h2 h4
    | succ i =>
      simp only [List.getElem?_cons_succ] at hv
      have := args_sv (n := n + 1) (i := i) h5 hv (fun j t m x hj => by
        rw [show gh0 + (n + 1) + j = gh0 + n + (j + 1) by omega]
        exact hg (j + 1) t m x (by simpa [ghS] using hj)) (fun j u hj => by
        rw [show gh0 + (n + 1) + j = gh0 + n + (j + 1) by omega]
        exact hV (j + 1) u (by simpa using hj))
      simpa [initS] using this

theorem gh_sv {F : Blks} {w : World} {st : St} {V : Nat → Value} : ∀ {ks : List PK} {d : DI ks} {vs : List Value} {fps : Nat → Blks} {i : Nat} {v : Value}, ArgsR F w ks d vs fps → vs[i]? = some v →
    (refAt ks i = true ∧ svR F w st V (fps i) v ((ghS ks d).getD i .un)) ∨ (refAt ks i = false ∧ (ghS ks d).getD i .un = .un)
  | [], _, vs, _, i, v, h, hv => by simp only [ArgsR] at h; subst h; simp at hv
  | .val t m :: ks, d, vs, fps, i, v, ⟨v0, vs', h1, h2, h3, h4, h5⟩, hv => by
    subst h1
    cases i with
    | zero => exact .inr ⟨rfl, rfl⟩
    | succ i => simpa [refAt, ghS] using gh_sv (st := st) (V := V) (i := i) h5 (by simpa using hv)
  | .fn f :: ks, d, vs, fps, i, v, ⟨v0, vs', h1, h2, h5⟩, hv => by
    subst h1
    cases i with
    | zero => exact .inr ⟨rfl, rfl⟩
    | succ i => simpa [refAt, ghS] using gh_sv (st := st) (V := V) (i := i) h5 (by simpa using hv)
  | .ref t m m' :: ks, d, vs, fps, i, v, ⟨v0, vs', h1, h2, h4, h5⟩, hv => by
    subst h1
    cases i with
    | zero =>
      simp only [List.getElem?_cons_zero, Option.some.injEq] at hv
      subst hv
      exact .inl ⟨rfl, fun _ => h2, h4⟩
    | succ i => simpa [refAt, ghS] using gh_sv (st := st) (V := V) (i := i) h5 (by simpa using hv)

theorem init_v : ∀ {n : Nat} {ks : List PK} {d : DI ks} {i : Nat} {t : Ty} {m : Md} {x : t.I}, (initS n ks d).getD i .un = .v t m x → refAt ks i = false
  | _, [], _, i, _, _, _, h => by simp [initS] at h
  | n, .val _ _ :: ks, d, 0, _, _, _, h => rfl
  | n, .fn _ :: ks, d, 0, _, _, _, h => rfl
  | n, .ref _ _ _ :: ks, d, 0, _, _, _, h => by simp [initS] at h
  | n, .val _ _ :: ks, d, i + 1, _, _, _, h => by simpa [refAt] using init_v (n := n + 1) (ks := ks) (d := d.2) (i := i) (by simpa [initS] using h)
  | n, .fn _ :: ks, d, i + 1, _, _, _, h => by simpa [refAt] using init_v (n := n + 1) (ks := ks) (d := d.2) (i := i) (by simpa [initS] using h)
  | n, .ref _ _ _ :: ks, d, i + 1, _, _, _, h => by simpa [refAt] using init_v (n := n + 1) (ks := ks) (d := d.2) (i := i) (by simpa [initS] using h)
theorem init_bx : ∀ {n : Nat} {ks : List PK} {d : DI ks} {i : Nat} {r : Nat} {p : List PE}, (initS n ks d).getD i .un ≠ .bx r p
  | _, [], _, i, _, _, h => by simp [initS] at h
  | n, .val _ _ :: ks, d, 0, _, _, h => by simp [initS] at h
  | n, .fn _ :: ks, d, 0, _, _, h => by simp [initS] at h
  | n, .ref _ _ _ :: ks, d, 0, _, _, h => by simp [initS] at h
  | n, .val _ _ :: ks, d, i + 1, _, _, h => init_bx (n := n + 1) (ks := ks) (d := d.2) (i := i) (by simpa [initS] using h)
  | n, .fn _ :: ks, d, i + 1, _, _, h => init_bx (n := n + 1) (ks := ks) (d := d.2) (i := i) (by simpa [initS] using h)
  | n, .ref _ _ _ :: ks, d, i + 1, _, _, h => init_bx (n := n + 1) (ks := ks) (d := d.2) (i := i) (by simpa [initS] using h)
theorem init_tup : ∀ {n : Nat} {ks : List PK} {d : DI ks} {i : Nat} {l : List SV}, (initS n ks d).getD i .un ≠ .tup l
  | _, [], _, i, _, h => by simp [initS] at h
  | n, .val _ _ :: ks, d, 0, _, h => by simp [initS] at h
  | n, .fn _ :: ks, d, 0, _, h => by simp [initS] at h
  | n, .ref _ _ _ :: ks, d, 0, _, h => by simp [initS] at h
  | n, .val _ _ :: ks, d, i + 1, _, h => init_tup (n := n + 1) (ks := ks) (d := d.2) (i := i) (by simpa [initS] using h)
  | n, .fn _ :: ks, d, i + 1, _, h => init_tup (n := n + 1) (ks := ks) (d := d.2) (i := i) (by simpa [initS] using h)
  | n, .ref _ _ _ :: ks, d, i + 1, _, h => init_tup (n := n + 1) (ks := ks) (d := d.2) (i := i) (by simpa [initS] using h)

theorem backS_inv {F : Blks} {w : World} {e : Entry} {st : St} {V : Nat → Value} {fp : Nat → Blks} {fl : Blks} {R : Type} {res : R} (hS : SR e F w st V fp fl) : ∀ {n : Nat} {ks : List PK} {K : DB ks → Option R} {vs : List Value}, backS ks n st K = some res → (∀ j u, vs[j]? = some u → V (gh0 + n + j) = u) →
    ∃ b, K b = some res ∧ BackR F w ks b vs (fun i => fp (gh0 + n + i))
  | _, [], _, vs, h, _ => ⟨(), h, by cases vs <;> trivial⟩
  | n, .val _ _ :: ks, K, vs, h, hV => by
    obtain ⟨b, h1, h2⟩ := backS_inv hS (n := n + 1) (ks := ks) (vs := vs.tail) h (fun j u hj => by
      rw [show gh0 + (n + 1) + j = gh0 + n + (j + 1) by omega]
      cases vs with
      | nil => simp at hj
      | cons v vs => exact hV (j + 1) u (by simpa using hj))
    refine ⟨b, h1, ?_⟩
    cases vs with
    | nil => exact backR_nil
    | cons v vs => simpa [BackR, Nat.add_assoc, Nat.add_comm 1] using h2
  | n, .fn _ :: ks, K, vs, h, hV => by
    obtain ⟨b, h1, h2⟩ := backS_inv hS (n := n + 1) (ks := ks) (vs := vs.tail) h (fun j u hj => by
      rw [show gh0 + (n + 1) + j = gh0 + n + (j + 1) by omega]
      cases vs with
      | nil => simp at hj
      | cons v vs => exact hV (j + 1) u (by simpa using hj))
    refine ⟨b, h1, ?_⟩
    cases vs with
    | nil => exact backR_nil
    | cons v vs => simpa [BackR, Nat.add_assoc, Nat.add_comm 1] using h2
  | n, .ref t m m' :: ks, K, vs, h, hV => by
    simp only [backS] at h
    split at h
    · rename_i T u mu y hst
      cases y with
      | none => cases h
      | some c =>
        simp only at h
        split at h
        · rename_i c' hc he
          obtain ⟨eu, hy⟩ := castI_some hc
          subst eu
          simp only at hy
          subst hy
          have := Md.eqb_eq he
          subst this
          obtain ⟨b, h1, h2⟩ := backS_inv hS (n := n + 1) (ks := ks) (vs := vs.tail) h (fun j u hj => by
            rw [show gh0 + (n + 1) + j = gh0 + n + (j + 1) by omega]
            cases vs with
            | nil => simp at hj
            | cons v vs => exact hV (j + 1) u (by simpa using hj))
          refine ⟨(c, b), h1, ?_⟩
          cases vs with
          | nil => exact backR_nil
          | cons v vs =>
            have hv : V (gh0 + n) = v := hV 0 v rfl
            have hsv := hS.sv (gh0 + n)
            rw [hst, hv] at hsv
            refine ⟨isV_ptr0 (hsv.1 nofun), rep_ptr0 hsv.2, ?_⟩
            simpa [Nat.add_assoc, Nat.add_comm 1] using h2
        · cases h
    · cases h

theorem meltRefs_inv {e : Entry} {w : World} {V : Nat → Value} {fl : Blks} {R α : Type} {res : R} {C : Cx R} {k : RM α} {Kk : α → St → Option R} : ∀ {ks : List PK} {n : Nat} {F : Blks} {st : St} {fp : Nat → Blks}, SR e F w st V fp fl → (meltRefs ks n k).run C st Kk = some res →
    ∃ st' fp', ∃ F' : Blks, k.run C st' Kk = some res ∧ SR e F' w st' V fp' fl ∧ ∀ b, F b → F' b
  | [], _, F, st, fp, hS, h => ⟨st, fp, F, h, hS, fun _ hb => hb⟩
  | .val _ _ :: ks, n, F, st, fp, hS, h => meltRefs_inv (ks := ks) (n := n + 1) hS h
  | .fn _ :: ks, n, F, st, fp, hS, h => meltRefs_inv (ks := ks) (n := n + 1) hS h
  | .ref _ _ m' :: ks, n, F, st, fp, hS, h => by
    simp only [meltRefs, RM.run] at h
    split at h
    · rename_i T u mu y hst
      split at h
      · exact meltRefs_inv (ks := ks) (n := n + 1) hS h
      · split at h
        · rename_i hl
          have hm : mu ≠ .j := fun hc => by subst hc; cases hl
          have hsv := hS.sv (gh0 + n)
          rw [hst] at hsv
          have hd : DataAt F w st V (V (gh0 + n)) (.ptr T u) mu y (some (gh0 + n, [])) :=
            ⟨hm, _, _, _, hst, y, by simp only [getP], by simp [ownP], by simp [inP], cv (V (gh0 + n)), none, by simp [rs], by
              have h1 : V (gh0 + n) = valOf (.ptr T u) (cv (V (gh0 + n))) := hsv.1 hm
              have h2 := PartOf.all (c' := cv (V (gh0 + n))) (.ptr T u) y
              rwa [← h1] at h2⟩
          obtain ⟨st1, fp1, fq, F1, h2, hS1, hF1, hv1, hm1, hrep1, hfl, _⟩ := take_melt (m' := .o m') hS hd hl h
          simp only [setS, RM.run] at h2
          have hS2 := hS1.fillV (d := gh0 + n) (v := V (gh0 + n)) (fq := fq) (fl' := fl) (fun _ => rfl) (fun _ => hv1) hrep1 (fun b hb => .inr hb) (fun b hb => ⟨.inl hb, fun hc => hfl b hc hb⟩)
          rw [updV_self] at hS2
          obtain ⟨st', fp', F', k1, k2, k3⟩ := meltRefs_inv (ks := ks) (n := n + 1) hS2 h2
          exact ⟨st', fp', F', k1, k2, fun b hb => k3 b (hF1 b hb)⟩
        · simp [RM.run] at h
    · simp [RM.run] at h

theorem res_get {F : Blks} {w : World} : ∀ {ks : List (Ty × Md)} {d : DI (pks ks)} {vs : List Value} {fps : Nat → Blks}, ArgsR F w (pks ks) d vs fps → vs.length = (resV ks (toDR ks d)).length ∧
    ∀ {k : Nat} {t : Ty} {m : Md} {x : t.I}, (resV ks (toDR ks d))[k]? = some (.v t m x) → ∃ u, vs[k]? = some u ∧ (m ≠ .j → isV t u) ∧ rep F w t m x (cv u) (fps k)
  | [], _, vs, fps, h => by
    simp only [pks, ArgsR] at h
    subst h
    exact ⟨rfl, fun h => by simp [resV] at h⟩
  | q :: ks, d, vs, fps, h => by
    obtain ⟨v, vs', rfl, h2, h3, h4, h5⟩ := h
    obtain ⟨r1, r2⟩ := res_get h5
    refine ⟨by simp [resV, toDR, r1], fun {k t m x} hk => ?_⟩
    cases k with
    | zero =>
      simp only [resV, List.getElem?_cons_zero, Option.some.injEq, toDR] at hk
      cases hk
      exact ⟨v, rfl, fun _ => h2, h4⟩
    | succ k =>
      simp only [resV, List.getElem?_cons_succ, toDR] at hk
      obtain ⟨u, k1, k2, k3⟩ := r2 hk
      exact ⟨u, by simpa using k1, k2, k3⟩

def resVal : List Value → Value
  | [v] => v
  | vs => .tuple vs.toArray

theorem res_all {F : Blks} {w : World} {ks : List (Ty × Md)} {d : DI (pks ks)} {vs : List Value} {fps : Nat → Blks} (hd : Disj fps) (h : ArgsR F w (pks ks) d vs fps) : ResR F w (resVal vs) (fun b => ∃ i, fps i b) (resS ks (toDR ks d)) := by
  obtain ⟨h1, h2⟩ := res_get h
  have hlen : vs.length = ks.length := by
    rw [args_len h]
    clear h h1 h2 d
    induction ks with
    | nil => rfl
    | cons q ks ih => simp [pks, ih]
  have htup : ResR F w (.tuple vs.toArray) (fun b => ∃ i, fps i b) (.tup (resV ks (toDR ks d))) :=
    ⟨vs, rfl, h1, fps, hd, fun k b hb => ⟨k, hb⟩, fun k t m x hk => h2 hk⟩
  rcases ks with _ | ⟨q, _ | ⟨q', ks⟩⟩
  · obtain rfl : vs = [] := List.eq_nil_of_length_eq_zero hlen
    exact htup
  · rcases vs with _ | ⟨v, _ | ⟨v', vs⟩⟩
    · simp at hlen
    · obtain ⟨u, k1, k2, k3⟩ := h2 (k := 0) rfl
      simp only [List.getElem?_cons_zero, Option.some.injEq] at k1
      subst k1
      exact ⟨k2, rep_fp (fun b hb => ⟨0, hb⟩) k3⟩
    · simp at hlen
  · rcases vs with _ | ⟨v, _ | ⟨v', vs⟩⟩
    · simp at hlen
    · simp at hlen
    · exact htup


theorem run_vals {P : Program} {w : World} {tmps vals : Array Value} {f : ResultVar → Sem Value} (hf : ∀ t, (f (.tmp t)).run P w = .ok (tmps.getD t undef) w) :
    ∀ {rs : List (Nat × Option TypeId)}, (∀ r T, (r, some T) ∈ rs → (f (.cell r T)).run P w = .ok (vals.getD r undef) w) → (∀ r, (r, none) ∈ rs → vals.getD r undef = tmps.getD r undef) →
    ((rs.map toRV).mapM f).run P w = .ok ((tmpsOf rs).map fun t => vals.getD t undef) w
  | [], _, _ => rfl
  | (r, none) :: rs, h1, h2 => by
    have ih := run_vals (vals := vals) hf (rs := rs) (fun r T h => h1 r T (List.mem_cons_of_mem _ h)) (fun r h => h2 r (List.mem_cons_of_mem _ h))
    simp only [List.map_cons, List.mapM_cons, Sem.run_bind, toRV, hf, Sem.run_pure, Result.andThen_ok, ih, tmpsOf, h2 r List.mem_cons_self]
  | (r, some T) :: rs, h1, h2 => by
    have ih := run_vals (vals := vals) hf (rs := rs) (fun r T h => h1 r T (List.mem_cons_of_mem _ h)) (fun r h => h2 r (List.mem_cons_of_mem _ h))
    simp only [List.map_cons, List.mapM_cons, Sem.run_bind, toRV, h1 r T List.mem_cons_self, Sem.run_pure, Result.andThen_ok, ih, tmpsOf]

theorem run_results {P : Program} {fn : Func} {w : World} {tmps vals : Array Value} {rs : List (Nat × Option TypeId)} (h : fn.results = (rs.map toRV).toArray)
    (h1 : ∀ r T, (r, some T) ∈ rs → (do loadVar T (← asAddr (tmps.getD r undef)) : Sem Value).run P w = .ok (vals.getD r undef) w) (h2 : ∀ r, (r, none) ∈ rs → vals.getD r undef = tmps.getD r undef) :
    (results fn tmps).run P w = .ok (resVal ((tmpsOf rs).map (fun t => vals.getD t undef))) w := by
  unfold results
  rw [h]
  simp only [Array.mapM_eq_mapM_toList, Sem.run_bind, Sem.run_map]
  rw [run_vals (tmps := tmps) (vals := vals) (fun t => rfl) h1 h2]
  simp only [Result.andThen_ok, Sem.run_pure]
  rcases rs with _ | ⟨r, _ | ⟨r', rs⟩⟩
  · rfl
  · rfl
  · simp [resVal, tmpsOf]

theorem mem_cells {rs : List (Nat × Option TypeId)} {r : Nat} {T : TypeId} : (r, T) ∈ cellsOf rs ↔ (r, some T) ∈ rs := by
  induction rs with
  | nil => simp [cellsOf]
  | cons q rs ih =>
    obtain ⟨r', o⟩ := q
    cases o with
    | none => simp [cellsOf, ih]
    | some T' => simp [cellsOf, ih]

theorem kill_un_put {st : St} {r : Nat} {v : SV} : ((st.put r .un).kill r []).put r v = (st.kill r []).put r v := by
  funext i
  by_cases hi : i = r
  · subst hi; rw [put_same, put_same]
  · rw [put_other hi, put_other hi]
    simp only [St.kill, put_other hi]

theorem uncell_inv {P : Program} {env : Env} {e : Entry} {F : Blks} {w : World} {α R : Type} {Kk : α → St → Option R} {res : R} {C : Cx R} {gh : Nat → Value} {k : RM α} (hE : EnvTy P env) : ∀ {cs : List (Nat × TypeId)} {st : St} {V : Nat → Value} {fp : Nat → Blks} {a : Act}, SR e F w st V fp none' → AR env gh a V → (uncell env cs k).run C st Kk = some res →
    ∃ st' V' fp' a', k.run C st' Kk = some res ∧ SR e F w st' V' fp' none' ∧ AR env gh a' V' ∧ (∀ q ∈ cs, (do loadVar q.2 (← asAddr (a.tmps.getD q.1 undef)) : Sem Value).run P w = .ok (a'.tmps.getD q.1 undef) w) ∧ (∀ r, (∀ q ∈ cs, q.1 ≠ r) → a'.tmps.getD r undef = a.tmps.getD r undef)
  | [], st, V, fp, a, hS, hA, h => ⟨st, V, fp, a, h, hS, hA, fun q hq => by simp at hq, fun _ _ => rfl⟩
  | (r, T) :: cs, st, V, fp, a, hS, hA, h => by
    unfold uncell at h
    split at h
    · rename_i hck
      simp only [Bool.and_eq_true] at hck
      have hrn := blt_lt hck.2
      simp only [RM.run] at h
      split at h
      · rename_i U t m y hst
        cases y with
        | none => simp [RM.run] at h
        | some c =>
          simp only at h
          split at h
          · rename_i hT
            simp only [Bool.and_eq_true, Bool.not_eq_true'] at hT
            simp only [RM.run] at h
            have hm : m ≠ .j := by rintro rfl; cases hT.2
            have hsv := hS.sv (env.b + r)
            rw [hst] at hsv
            have hrp := hsv.2
            simp only [rep] at hrp
            obtain ⟨A, e1, ad, rfl, hsp, e2, e3, f, e4, e5⟩ := hrp
            obtain ⟨b, o, sp⟩ := ad
            simp only at hsp
            subst hsp
            simp only at e2 e3 e4 e5
            have hone : t.agg = false → one (rowW w b o 0) := fun ha => rep_one e5 hm ha
            have hS1 := (hS.drop (env.b + r)).fillV (d := env.b + r) (v := valOf t (rowW w b o)) (fq := f) (fl' := none') (hA.gd hrn) (fun _ => isV_valOf hone) (rep_cells (fun j hj => (valOf_cv hone j hj).symm) e5)
              (fun b' hb' => .inr (e4 b' hb').1) (fun _ hb => hb.elim)
            rw [kill_un_put] at hS1
            obtain ⟨st', V', fp', a', k1, k2, k3, k4, k5⟩ := uncell_inv hE hS1 (hA.put hrn) h
            have hval : a.tmps.getD r undef = .pointer (some ⟨b, o, none⟩) := by
              rw [hA.tmps r hrn, ptr_val (hsv.1 nofun)]
              exact e1
            have hother : ∀ r', r' ≠ r → (a.put (some r) (valOf t (rowW w b o))).tmps.getD r' undef = a.tmps.getD r' undef := fun r' hr' => by
              simp only [Act.put, Array.getD_eq_getD_getElem?]
              rw [Array.getElem?_setIfInBounds_ne (Ne.symm hr')]
            have hne : ∀ q ∈ cs, q.1 ≠ r := fun q hq hc => by
              have := List.all_eq_true.1 hck.1 q hq
              rw [hc, Nat.beq_refl] at this
              cases this
            refine ⟨st', V', fp', a', k1, k2, k3, fun q hq => ?_, fun r' hr' => ?_⟩
            · rcases List.mem_cons.1 hq with hq | hq
              · subst hq
                simp only
                rw [k5 r (fun q hq => hne q hq), hval]
                have hnew : (a.put (some r) (valOf t (rowW w b o))).tmps.getD r undef = valOf t (rowW w b o) := by
                  have : r < a.tmps.size := by rw [hA.size]; exact hrn
                  simp [Act.put, Array.getD, this]
                rw [hnew]
                simp only [asAddr, Sem.run_bind, Sem.run_pure, Result.andThen_ok]
                exact run_loadVar (Env.is_ok hE hT.1) e3
              · rw [← hother q.1 (hne q hq)]
                exact k4 q hq
            · rw [k5 r' (fun q hq => hr' q (List.mem_cons_of_mem _ hq))]
              exact hother r' (fun hc => hr' (r, T) List.mem_cons_self hc.symm)
          · simp [RM.run] at h
      · simp [RM.run] at h
    · simp [RM.run] at h

section
variable {P : Program} {env : Env} {inl : Inl}

/-- no result is both -/
def rvOk (rs : List (Nat × Option TypeId)) : Bool := rs.all fun q => match q.2 with
  | none => (cellsOf rs).all fun c => !(Nat.beq c.1 q.1)
  | some _ => true
theorem rvOk_ne {rs : List (Nat × Option TypeId)} (h : rvOk rs = true) : ∀ (r : Nat) (q : Nat × TypeId), (r, none) ∈ rs → q ∈ cellsOf rs → q.1 = r → False := by
  intro r q h1 h2 h3
  have := List.all_eq_true.1 h _ h1
  simp only at this
  have := List.all_eq_true.1 this q h2
  rw [h3, Nat.beq_refl] at this
  cases this

/-- A FUNCTION IS WHAT THE CODE COMPUTES -/
theorem holds_of {f : FuncId} {fn : Func} {code : Code} {c : CSpec} {rs : List (Nat × Option TypeId)} {lp : Loops} (hm : P.follows .mixedOrders = true) (hE : EnvTy P env) (hF : EnvFn P env) (hI : InlOk P env.top inl) (hf : P.funcs[f]? = some fn) (hname : (fn.name == "runtime.NumGoroutine") = false) (hb : fn.body = some code) (hr : fn.results = (rs.map toRV).toArray)
    (hn : env.n = fn.ntmps) (hlen : (Nat.ble c.ins.length fn.ntmps && (Nat.blt fn.ntmps gh0 && (Nat.beq env.b 0 && !env.df))) = true) (hL : LoopsOk env lp inl code) (hrd : rvOk rs = true)
    (hev : ∀ (d : DI c.ins) (R : Type) (K : DR c.outs → DB c.ins → Option R) (Kp : PI c.pan → DB c.ins → Option R) (res : R), c.fn d K Kp = some res → evC env lp inl code (St.start c.ins d) (retK env c.ins c.outs rs c.pan K Kp) = some res) : Holds P f c := by
  refine ⟨⟨fn, code, hf, hname, hb⟩, ?_⟩
  intro F w d vs fps R K Kp res hFs hd hfp hargs hcall
  have hnd := rvOk_ne hrd
  have hvl := args_len hargs
  simp only [Bool.and_eq_true, Bool.not_eq_true'] at hlen
  have hle := Nat.le_of_ble_eq_true hlen.1
  have hlim := blt_lt hlen.2.1
  have hb0 := Nat.eq_of_beq_eq_true hlen.2.2.1
  have hdf := hlen.2.2.2
  refine calls_of_wp hf hb ?_
  let e : Entry := ⟨w, fun b => ∃ i, fps i b, F⟩
  let gh : Nat → Value := fun i => vs.getD (i - gh0) undef
  let tm : Array Value := vs.toArray ++ Array.replicate (fn.ntmps - vs.toArray.size) undef
  let V0 : Nat → Value := fun i => if gh0 ≤ i then vs.getD (i - gh0) undef else tm.getD i undef
  let fp0 : Nat → Blks := fun i b => if gh0 ≤ i then refAt c.ins (i - gh0) = true ∧ i - gh0 < vs.length ∧ fps (i - gh0) b else refAt c.ins i = false ∧ i < vs.length ∧ fps i b
  have htm : ∀ i v, vs[i]? = some v → tm.getD i undef = v := by
    intro i v hv
    have hi : i < vs.length := (List.getElem?_eq_some_iff.1 hv).1
    simp only [tm, Array.getD_eq_getD_getElem?]
    rw [Array.getElem?_append_left (by simpa using hi)]
    simp [hv]
  have hgh : ∀ j v, vs[j]? = some v → V0 (gh0 + 0 + j) = v := by
    intro j v hv
    show (if gh0 ≤ gh0 + 0 + j then vs.getD (gh0 + 0 + j - gh0) undef else _) = v
    rw [if_pos (by omega), show gh0 + 0 + j - gh0 = j by omega, List.getD_eq_getElem?_getD, hv]
    rfl
  have hstg : ∀ j, St.start c.ins d (gh0 + 0 + j) = (ghS c.ins d).getD j .un := by
    intro j
    unfold St.start
    rw [show Nat.ble gh0 (gh0 + 0 + j) = true from Nat.ble_eq_true_of_le (by omega)]
    simp only
    rw [show gh0 + 0 + j - gh0 = j by omega]
  have hA0 : AR env gh { tmps := tm, defers := [] } V0 := ⟨by simp only [tm, Array.size_append, List.size_toArray, Array.size_replicate]; omega, fun i hi => by
    show tm.getD i undef = if gh0 ≤ env.b + i then _ else _
    rw [if_neg (by omega), hb0, Nat.zero_add], by rw [hdf], by omega, fun i hi => by
    rcases hi with hi | hi
    · omega
    · exact if_pos hi⟩
  have hfp0 : ∀ i b, fp0 i b → ∃ j, fps j b := by
    intro i b hb
    simp only [fp0] at hb
    split at hb
    · exact ⟨_, hb.2.2⟩
    · exact ⟨_, hb.2.2⟩
  have hS0 : SR e F w (St.start c.ins d) V0 fp0 none' := by
    refine ⟨fun i => ?_, ⟨fun i j hij b hb hb' => ?_⟩, fun i b hb => ?_, fun i b hb => ?_, hFs, fun _ _ _ hb => hb.elim, fun _ hb => hb.elim, fun _ hb => hb.elim, Grew.refl _, fun _ _ _ => rfl, fun i b hb => .inl (hfp0 i b hb), fun _ hb => hb.elim, fun _ hb => hb, fun _ hb => .inl hb⟩
    · by_cases hgi : gh0 ≤ i
      · obtain ⟨j, rfl⟩ : ∃ j, i = gh0 + 0 + j := ⟨i - gh0, by omega⟩
        rw [hstg j]
        by_cases hj : j < vs.length
        · have hv : vs[j]? = some vs[j] := List.getElem?_eq_getElem hj
          rw [hgh j _ hv]
          rcases gh_sv (st := St.start c.ins d) (V := V0) hargs hv with ⟨h1, h2⟩ | ⟨h1, h2⟩
          · have hfi : ∀ b, fps j b → fp0 (gh0 + 0 + j) b := fun b hb => by
              show if gh0 ≤ gh0 + 0 + j then _ else _
              rw [if_pos (by omega), show gh0 + 0 + j - gh0 = j by omega]
              exact ⟨h1, hj, hb⟩
            cases hsi : (ghS c.ins d).getD j .un with
            | v t m x => rw [hsi] at h2; exact ⟨h2.1, rep_fp hfi h2.2⟩
            | tup l =>
              rw [hsi] at h2
              obtain ⟨vs', e1, e2, fs, e3, e4, e5⟩ := h2
              exact ⟨vs', e1, e2, fs, e3, fun k b hb => hfi b (e4 k b hb), e5⟩
            | al r q => rw [hsi] at h2; exact h2
            | lz r q => rw [hsi] at h2; exact h2
            | sub r q lo hi => rw [hsi] at h2; exact h2
            | bx r q => rw [hsi] at h2; exact h2
            | ifc T t1 x1 => rw [hsi] at h2; exact h2
            | fn f s caps => rw [hsi] at h2; exact h2
            | nil => rw [hsi] at h2; exact h2
            | un => trivial
          · rw [h2]; trivial
        · have : (ghS c.ins d).getD j .un = .un := by
            have : (ghS c.ins d).length ≤ j := by rw [ghS_len, ← hvl]; omega
            simp [List.getD, this]
          rw [this]
          trivial
      · have hst : St.start c.ins d i = (initS 0 c.ins d).getD i .un := by
          unfold St.start
          rw [show Nat.ble gh0 i = false from by
            cases hb : Nat.ble gh0 i with
            | false => rfl
            | true => exact absurd (Nat.le_of_ble_eq_true hb) hgi]
        have hVi : V0 i = tm.getD i undef := if_neg hgi
        rw [hst, hVi]
        by_cases hi : i < vs.length
        · have hv : vs[i]? = some vs[i] := List.getElem?_eq_getElem hi
          have := args_sv (n := 0) (st := St.start c.ins d) (V := V0) hargs hv (fun j t m x hj => by
            rw [hstg j, List.getD_eq_getElem?_getD, hj]
            rfl) hgh
          rw [htm i _ hv]
          cases hsi : (initS 0 c.ins d).getD i .un with
          | v t m x =>
            rw [hsi] at this
            refine ⟨this.1, rep_fp (fun b hb => ?_) this.2⟩
            show if gh0 ≤ i then _ else _
            rw [if_neg hgi]
            exact ⟨init_v hsi, hi, hb⟩
          | tup l => exact absurd hsi init_tup
          | al r q => rw [hsi] at this; exact this
          | lz r q => rw [hsi] at this; exact this
          | sub r q lo hi => rw [hsi] at this; exact this
          | bx r q => exact absurd hsi init_bx
          | ifc T t1 x1 => rw [hsi] at this; exact this
          | fn f s caps => rw [hsi] at this; exact this
          | nil => rw [hsi] at this; exact this
          | un => trivial
        · have : (initS 0 c.ins d).getD i .un = .un := by
            have : (initS 0 c.ins d).length ≤ i := by rw [initS_len, ← hvl]; omega
            simp [List.getD, this]
          rw [this]
          trivial
    · simp only [fp0] at hb hb'
      split at hb <;> split at hb'
      · exact hd.disj _ _ (by omega) b hb.2.2 hb'.2.2
      · by_cases hq : i - gh0 = j
        · rw [hq] at hb; rw [hb.1] at hb'; cases hb'.1
        · exact hd.disj _ _ hq b hb.2.2 hb'.2.2
      · by_cases hq : i = j - gh0
        · rw [← hq] at hb'; rw [hb.1] at hb'; cases hb'.1
        · exact hd.disj _ _ hq b hb.2.2 hb'.2.2
      · exact hd.disj _ _ hij b hb.2.2 hb'.2.2
    · obtain ⟨j, hb⟩ := hfp0 i b hb; exact (hfp j b hb).1
    · obtain ⟨j, hb⟩ := hfp0 i b hb; exact (hfp j b hb).2
  have hgv : ∀ {V : Nat → Value} {a : Act}, AR env gh a V → ∀ j u, vs[j]? = some u → V (gh0 + 0 + j) = u := fun hA j u hj => by
    rw [hA.keep _ (.inr (by omega))]
    show vs.getD (gh0 + 0 + j - gh0) undef = u
    rw [show gh0 + 0 + j - gh0 = j by omega, List.getD_eq_getElem?_getD, hj]
    rfl
  have hdef : ∀ {V : Nat → Value} {a : Act}, AR env gh a V → a.defers = [] := fun hA => by have := hA.defers; rwa [hdf] at this
  refine evC_sound hm hE hF hI (e := e) hL (fun _ _ _ _ _ _ h => h) ⟨?_, ?_⟩ hS0 hA0 (hev d R K Kp res hcall)
  case refine_2 =>
    intro p ch F1 w1 st1 V1 fp1 a1 hS hA hp h
    simp only [retK] at h
    split at h
    · rename_i y hy
      obtain ⟨st1, fp1, F1, h, hS, hFF⟩ := meltRefs_inv hS h
      replace hp := hp.mono hFF
      simp only [RM.run] at h
      obtain ⟨rb, k1, kb⟩ := backS_inv hS (vs := vs) h (hgv hA)
      refine ⟨hdef hA, rb, F1, none', fun i => fp1 (gh0 + 0 + i), .inr ⟨ch, y, rfl, k1, by rw [panI_inv hy]; exact hp⟩, fun b hb => hS.g5 b hb, hS.g1, fun b hb hno => hS.g2 b hb (fun hc => by obtain ⟨i, hc⟩ := hc; exact hno i hc),
        ⟨⟨fun i j hij b hb hb' => hS.disj.disj _ _ (by omega) b hb hb'⟩, fun i b hb hc => hc, kb⟩, fun b hb => ?_, fun b hb => ⟨hS.inF b hb, hS.g6 b hb⟩⟩
      rcases hb with hb | ⟨i, hb⟩
      · exact hb.elim
      · exact ⟨hS.notF _ b hb, hS.inH _ b hb, hS.g3 _ b hb⟩
    · cases h
  intro x F1 w1 st1 V1 fp1 a1 hx hS hA h
  have key : (uncell env (cellsOf rs) (gather env false (pks c.outs) ((tmpsOf rs).map Operand.tmp) [] fun d _ _ => meltRefs c.ins 0 (.ret (toDR c.outs d)))).run Cx.no st1 (fun r st => backS c.ins 0 st fun b => K r b) = some res → a1.defers = [] ∧ ∃ v, (results fn a1.tmps).run P w1 = .ok v w1 ∧ ∃ rb, ∃ F' fo : Blks, ∃ fb : Nat → Blks, ((∃ v' ro, Ending.returned v = .returned v' ∧ K ro rb = some res ∧ ResR F' w1 v' fo (resS c.outs ro)) ∨ (∃ ch pi, Ending.returned v = .panicked ch ∧ Kp pi rb = some res ∧ PanR F' w1 (PI.pan c.pan pi) ch)) ∧ (∀ b, F b → F' b) ∧ Grew w w1 ∧ (∀ b, b < w.heap.size → (∀ i, ¬ fps i b) → Same w w1 b) ∧
      (Disj fb ∧ (∀ i b, fb i b → ¬ fo b) ∧ BackR F' w1 c.ins rb vs fb) ∧ (∀ b, (fo b ∨ ∃ i, fb i b) → ¬ F' b ∧ b < w1.heap.size ∧ ((∃ i, fps i b) ∨ w.heap.size ≤ b)) ∧ (∀ b, F' b → b < w1.heap.size ∧ (F b ∨ (∃ i, fps i b) ∨ w.heap.size ≤ b)) := by
    intro h
    obtain ⟨st2, V2, fp2, a2, h, hS2, hA2, u1, u2⟩ := uncell_inv hE hS hA h
    obtain ⟨st', fp', fl', F', d', ms, bs, fps', k1, k2, k3, k4, k5, k6, k7, k8, k9⟩ := gather_inv hA2 hS2 h
    obtain ⟨st', fpm, F2, k1, k2, hFF⟩ := meltRefs_inv k2 k1
    simp only [RM.run] at k1
    obtain ⟨rb, k1, kb⟩ := backS_inv k2 (vs := vs) k1 (hgv hA2)
    have hnd' : ∀ (r : Nat) (q : Nat × TypeId), (r, none) ∈ rs → q ∈ cellsOf rs → q.1 = r → False := hnd
    refine ⟨hdef hA, _, run_results (vals := a2.tmps) hr (fun r T hq => u1 (r, T) (mem_cells.2 hq)) (fun r hq => u2 r (fun q hqc hc => hnd' r q hq hqc hc)), rb, F2, fun b => ∃ i, fps' i b, fun i => fpm (gh0 + 0 + i), .inl ⟨_, toDR c.outs d', rfl, k1, ?_⟩, fun b hb => k2.g5 b hb, k2.g1, fun b hb hno => k2.g2 b hb (fun hc => by obtain ⟨i, hc⟩ := hc; exact hno i hc), ⟨⟨fun i j hij b hb hb' => k2.disj.disj _ _ (by omega) b hb hb'⟩, fun i b hb hc => ?_, kb⟩, fun b hb => ?_, fun b hb => ⟨k2.inF b hb, k2.g6 b hb⟩⟩
    · have hbs := k8 rfl
      subst hbs
      have h9 : ArgsR F2 w1 (pks c.outs) d' (((tmpsOf rs).map Operand.tmp).map a2.eval) fps' := k9.mono (fun b hb => by
        rcases hb with hb | ⟨r, hr, _⟩
        · exact hFF b hb
        · cases hr)
      have := res_all k5 h9
      have e1 : ((tmpsOf rs).map Operand.tmp).map a2.eval = (tmpsOf rs).map (fun t => a2.tmps.getD t undef) := by
        rw [List.map_map]; rfl
      rw [e1] at this
      exact this
    · obtain ⟨j, hc⟩ := hc
      exact k2.flD _ b hb (k6 j b hc).1
    · rcases hb with ⟨i, hb⟩ | ⟨i, hb⟩
      · exact ⟨k2.flF b (k6 i b hb).1, k2.flH b (k6 i b hb).1, k2.g4 b (k6 i b hb).1⟩
      · exact ⟨k2.notF _ b hb, k2.inH _ b hb, k2.g3 _ b hb⟩
  cases x with
  | exit i => cases h
  | pan p => cases hx
  | normal => exact key h
  | ret => exact key h

end
end Go.Trm
namespace Go.Trm

/-- the bodies of all loops -/
def loopsL : Code → List Code
  | .seq a b => loopsL a ++ loopsL b
  | .cond _ a b => loopsL a ++ loopsL b
  | .block _ c => loopsL c
  | .scope c => loopsL c
  | .loop c => c :: loopsL c
  | _ => []

end Go.Trm
