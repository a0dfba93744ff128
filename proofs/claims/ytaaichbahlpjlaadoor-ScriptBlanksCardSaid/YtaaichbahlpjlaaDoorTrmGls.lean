import Derived.Test.YtaaichbahlpjlaaDoorTrmRun
import Derived.WalkKit
import Derived.ProofKit
import Derived.OpenShut
import Derived.ShutString
import Derived.ChangeOld
import Derived.Below
import Derived.SizedLaws
import Derived.HandedShaped
import Derived.Shelf.Vars
import Derived.Lay
import Derived.LaidMore
import Derived.MakeChecks
import Derived.FnData
import Derived.RowKit
import Derived.Test.YtaaichbahlpjlaaDoorRows
import Derived.KernelRfl
set_option linter.unusedVariables false
set_option linter.unusedSimpArgs false
namespace Go.Trm
def pks : List (Ty × Md) → List PK
 | [] => []
 | k :: ks => .val k.1 k.2 :: pks ks
def toDR : (ks : List (Ty × Md)) → DI (pks ks) → DR ks
 | [], _ => ()
 | _ :: ks, d => (d.1, toDR ks d.2)
def initS : Nat → (ks : List PK) → DI ks → List SV
 | _, [], _ => []
 | n, .val t m :: ks, d => .v t m d.1 :: initS (n + 1) ks d.2
 | n, .fn f :: ks, d => .fn f [] [] :: initS (n + 1) ks d.2
 | n, .ref _ _ _ :: ks, d => .al (gh0 + n) [.der] :: initS (n + 1) ks d.2
def ghS : (ks : List PK) → DI ks → List SV
 | [], _ => []
 | .val _ _ :: ks, d => .un :: ghS ks d.2
 | .fn _ :: ks, d => .un :: ghS ks d.2
 | .ref t m _ :: ks, d => .v (.ptr 0 t) (.o m) (some d.1) :: ghS ks d.2
def St.start (ks : List PK) (d : DI ks) : St := fun i => match Nat.ble gh0 i with
 | true => (ghS ks d).getD (i - gh0) .un
 | false => (initS 0 ks d).getD i .un
def backS {R : Type} : (ks : List PK) → Nat → St → (DB ks → Option R) → Option R
 | [], _, _, K => K ()
 | .val _ _ :: ks, n, st, K => backS ks (n + 1) st K
 | .fn _ :: ks, n, st, K => backS ks (n + 1) st K
 | .ref t _ m' :: ks, n, st, K => match st (gh0 + n) with
  | .v (.ptr _ u) mu y => match (y : Option u.I) with
   | some c => match castI u t c, mu.eqb (.o m') with
    | some c', true => backS ks (n + 1) st fun b => K (c', b)
    | _, _ => none
   | none => none
  | _ => none
def zBha {α : Type} : List PK → Nat → RM α → RM α
 | [], _, k => k
 | .val _ _ :: ks, n, k => zBha ks (n + 1) k
 | .fn _ :: ks, n, k => zBha ks (n + 1) k
 | .ref _ _ m' :: ks, n, k => .get (gh0 + n) fun w => match w with
  | .v (.ptr T u) mu y => match mu.eqb (.o m') with
   | true => zBha ks (n + 1) k
   | false => match (Md.o m').le mu with
    | true => take (some (gh0 + n, [])) (setS (gh0 + n) (.v (.ptr T u) (.o m') y) (zBha ks (n + 1) k))
    | false => .fail
  | _ => .fail
def zcqa {α : Type} (env : Env) : List (Nat × TypeId) → RM α → RM α
 | [], k => k
 | (r, T) :: cs, k => match cs.all (fun q => !(Nat.beq r q.1)) && Nat.blt r env.n with
  | true => .get (env.b + r) fun w => match w with
   | .v (.ptr _ t) (.o m) y => match (y : Option t.I) with
    | some c => match env.is T t && !m.isJ with
     | true => .kill (env.b + r) [] (.put (env.b + r) (.v t m c) (zcqa env cs k))
     | false => .fail
    | none => .fail
   | _ => .fail
  | false => .fail
def toRV (q : Nat × Option TypeId) : ResultVar := match q.2 with
 | none => .tmp q.1
 | some T => .cell q.1 T
def zoda : List (Nat × Option TypeId) → List (Nat × TypeId)
 | [] => []
 | (_, none) :: l => zoda l
 | (r, some T) :: l => (r, T) :: zoda l
def zgla : List (Nat × Option TypeId) → List Nat
 | [] => []
 | q :: l => q.1 :: zgla l
def panI : (o : Option (TypeId × Ty)) → PanV → Option (PI o)
 | none, _ => none
 | some q, p => match Nat.beq q.1 p.T with
  | true => castI p.t q.2 p.x
  | false => none
theorem zzva {o : Option (TypeId × Ty)} {p : PanV} {y : PI o} (h : panI o p = some y) : PI.pan o y = p := by
 cases o with
 | none => cases h
 | some q =>
  simp only [panI] at h
  split at h
  ·rename_i hb
   obtain ⟨T, t⟩ := q
   obtain ⟨T', t', x⟩ := p
   simp only at h hb
   obtain ⟨eu, hy⟩ := zhba h
   subst eu
   simp only at hy
   subst hy
   rw [← Nat.eq_of_beq_eq_true hb]
   rfl
  ·cases h
noncomputable def retK {R : Type} (env : Env) (ins : List PK) (ks : List (Ty × Md)) (rs : List (Nat × Option TypeId)) (pn : Option (TypeId × Ty)) (K : DR ks → DB ins → Option R) (Kp : PI pn → DB ins → Option R) : Ex → St → Option R
 | .exit _, _ => none
 | .pan p, st => match panI pn p with
  | some y => (zBha ins 0 (.ret ())).run Cx.no st fun _ st => backS ins 0 st fun b => Kp y b
  | none => none
 | _, st => (zcqa env (zoda rs) (zyia env false (pks ks) ((zgla rs).map Operand.tmp) [] fun d _ _ => zBha ins 0 (.ret (toDR ks d)))).run Cx.no st fun r st => backS ins 0 st fun b => K r b
theorem zTma : ∀ {n : Nat} {ks : List PK} {d : DI ks}, (initS n ks d).length = ks.length
 | _, [], _ => rfl
 | _, .val _ _ :: _, _ => by simp [initS, zTma]
 | _, .fn _ :: _, _ => by simp [initS, zTma]
 | _, .ref _ _ _ :: _, _ => by simp [initS, zTma]
theorem ztra : ∀ {ks : List PK} {d : DI ks}, (ghS ks d).length = ks.length
 | [], _ => rfl
 | .val _ _ :: _, _ => by simp [ghS, ztra]
 | .fn _ :: _, _ => by simp [ghS, ztra]
 | .ref _ _ _ :: _, _ => by simp [ghS, ztra]
def refAt (ks : List PK) (i : Nat) : Bool := match ks[i]? with
 | some (.ref _ _ _) => true
 | _ => false
theorem zMna {F : Blks} {w : World} : ∀ {ks : List PK} {d : DI ks} {vs : List Value} {fps : Nat → Blks}, ArgsR F w ks d vs fps → vs.length = ks.length
 | [], _, _, _, h => by simp only [ArgsR] at h; subst h; rfl
 | .val _ _ :: _, _, _, _, ⟨v, vs', h1, _, _, _, h5⟩ => by subst h1; simp [zMna h5]
 | .fn _ :: _, _, _, _, ⟨v, vs', h1, _, h5⟩ => by subst h1; simp [zMna h5]
 | .ref _ _ _ :: _, _, _, _, ⟨v, vs', h1, _, _, h5⟩ => by subst h1; simp [zMna h5]
theorem al_of {F : Blks} {w : World} {st : St} {V : Nat → Value} {r : Nat} {v : Value} {t : Ty} {m : Md} {y : t.I} {fq : Blks} (hst : st r = .v (.ptr 0 t) (.o m) (some y)) (hV : V r = v) (hv : isV (.ptr 0 t) v) (hr : rep F w (.ptr 0 t) (.o m) (some y) (cv v) fq) : AlOk w st V r [.der] v := by
 intro t0 m0 x0 h0
 rw [hst] at h0
 cases h0
 simp only [rep] at hr
 obtain ⟨A, e1, ad, rfl, hsp, e2, e3, f, e4, e5⟩ := hr
 obtain ⟨b, k, sp⟩ := ad
 simp only at hsp
 subst hsp
 refine ⟨rfl, by simp [ownP], by simp [inP], t, rowW w b k, b, k, ?_, ?_⟩
 ·rw [hV]; simp only [rs, e1]
 ·have h2 : v = valOf (.ptr 0 t) (cv v) := hv
  rw [h2]
  simp only [valOf, Ty.agg, Bool.false_eq_true, if_false]
  exact e1
theorem zBra {F : Blks} {w : World} {st : St} {V : Nat → Value} : ∀ {n : Nat} {ks : List PK} {d : DI ks} {vs : List Value} {fps : Nat → Blks} {i : Nat} {v : Value}, ArgsR F w ks d vs fps → vs[i]? = some v →
  (∀ j t m x, (ghS ks d)[j]? = some (.v t m x) → st (gh0 + n + j) = .v t m x) → (∀ j u, vs[j]? = some u → V (gh0 + n + j) = u) → svR F w st V (fps i) v ((initS n ks d).getD i .un)
 | _, [], _, vs, _, i, v, h, hv, _, _ => by simp only [ArgsR] at h; subst h; simp at hv
 | n, .val t m :: ks, d, vs, fps, i, v, ⟨v0, vs', h1, h2, h3, h4, h5⟩, hv, hg, hV => by
  subst h1
  cases i with
  | zero =>
   simp only [List.getElem?_cons_zero, Option.some.injEq] at hv
   subst hv
   exact ⟨fun _ => h2, h4⟩
  | succ i =>
   simp only [List.getElem?_cons_succ] at hv
   have := zBra (n := n + 1) (i := i) h5 hv (fun j t m x hj => by
    rw [show gh0 + (n + 1) + j = gh0 + n + (j + 1) by omega]
    exact hg (j + 1) t m x (by simpa [ghS] using hj)) (fun j u hj => by
    rw [show gh0 + (n + 1) + j = gh0 + n + (j + 1) by omega]
    exact hV (j + 1) u (by simpa using hj))
   simpa [initS] using this
 | n, .fn f :: ks, d, vs, fps, i, v, ⟨v0, vs', h1, h2, h5⟩, hv, hg, hV => by
  subst h1
  cases i with
  | zero =>
   simp only [List.getElem?_cons_zero, Option.some.injEq] at hv
   subst hv
   exact ⟨[], [], h2, ⟨rfl, fun k q hq => by simp at hq⟩, ⟨rfl, fun k q hq => by simp at hq⟩⟩
  | succ i =>
   simp only [List.getElem?_cons_succ] at hv
   have := zBra (n := n + 1) (i := i) h5 hv (fun j t m x hj => by
    rw [show gh0 + (n + 1) + j = gh0 + n + (j + 1) by omega]
    exact hg (j + 1) t m x (by simpa [ghS] using hj)) (fun j u hj => by
    rw [show gh0 + (n + 1) + j = gh0 + n + (j + 1) by omega]
    exact hV (j + 1) u (by simpa using hj))
   simpa [initS] using this
 | n, .ref t m m' :: ks, d, vs, fps, i, v, ⟨v0, vs', h1, h2, h4, h5⟩, hv, hg, hV => by
  subst h1
  cases i with
  | zero =>
   simp only [List.getElem?_cons_zero, Option.some.injEq] at hv
   subst hv
   exact al_of (hg 0 _ _ _ rfl) (hV 0 _ rfl) h2 h4
  | succ i =>
   simp only [List.getElem?_cons_succ] at hv
   have := zBra (n := n + 1) (i := i) h5 hv (fun j t m x hj => by
    rw [show gh0 + (n + 1) + j = gh0 + n + (j + 1) by omega]
    exact hg (j + 1) t m x (by simpa [ghS] using hj)) (fun j u hj => by
    rw [show gh0 + (n + 1) + j = gh0 + n + (j + 1) by omega]
    exact hV (j + 1) u (by simpa using hj))
   simpa [initS] using this
theorem gh_sv {F : Blks} {w : World} {st : St} {V : Nat → Value} : ∀ {ks : List PK} {d : DI ks} {vs : List Value} {fps : Nat → Blks} {i : Nat} {v : Value}, ArgsR F w ks d vs fps → vs[i]? = some v →
  (refAt ks i = true ∧ svR F w st V (fps i) v ((ghS ks d).getD i .un)) ∨ (refAt ks i = false ∧ (ghS ks d).getD i .un = .un)
 | [], _, vs, _, i, v, h, hv => by simp only [ArgsR] at h; subst h; simp at hv
 | .val t m :: ks, d, vs, fps, i, v, ⟨v0, vs', h1, h2, h3, h4, h5⟩, hv => by
  subst h1
  cases i with
  | zero => exact .inr ⟨rfl, rfl⟩
  | succ i => simpa [refAt, ghS] using gh_sv (st := st) (V := V) (i := i) h5 (by simpa using hv)
 | .fn f :: ks, d, vs, fps, i, v, ⟨v0, vs', h1, h2, h5⟩, hv => by
  subst h1
  cases i with
  | zero => exact .inr ⟨rfl, rfl⟩
  | succ i => simpa [refAt, ghS] using gh_sv (st := st) (V := V) (i := i) h5 (by simpa using hv)
 | .ref t m m' :: ks, d, vs, fps, i, v, ⟨v0, vs', h1, h2, h4, h5⟩, hv => by
  subst h1
  cases i with
  | zero =>
   simp only [List.getElem?_cons_zero, Option.some.injEq] at hv
   subst hv
   exact .inl ⟨rfl, fun _ => h2, h4⟩
  | succ i => simpa [refAt, ghS] using gh_sv (st := st) (V := V) (i := i) h5 (by simpa using hv)
theorem znua : ∀ {n : Nat} {ks : List PK} {d : DI ks} {i : Nat} {t : Ty} {m : Md} {x : t.I}, (initS n ks d).getD i .un = .v t m x → refAt ks i = false
 | _, [], _, i, _, _, _, h => by simp [initS] at h
 | n, .val _ _ :: ks, d, 0, _, _, _, h => rfl
 | n, .fn _ :: ks, d, 0, _, _, _, h => rfl
 | n, .ref _ _ _ :: ks, d, 0, _, _, _, h => by simp [initS] at h
 | n, .val _ _ :: ks, d, i + 1, _, _, _, h => by simpa [refAt] using znua (n := n + 1) (ks := ks) (d := d.2) (i := i) (by simpa [initS] using h)
 | n, .fn _ :: ks, d, i + 1, _, _, _, h => by simpa [refAt] using znua (n := n + 1) (ks := ks) (d := d.2) (i := i) (by simpa [initS] using h)
 | n, .ref _ _ _ :: ks, d, i + 1, _, _, _, h => by simpa [refAt] using znua (n := n + 1) (ks := ks) (d := d.2) (i := i) (by simpa [initS] using h)
theorem zmra : ∀ {n : Nat} {ks : List PK} {d : DI ks} {i : Nat} {r : Nat} {p : List PE}, (initS n ks d).getD i .un ≠ .bx r p
 | _, [], _, i, _, _, h => by simp [initS] at h
 | n, .val _ _ :: ks, d, 0, _, _, h => by simp [initS] at h
 | n, .fn _ :: ks, d, 0, _, _, h => by simp [initS] at h
 | n, .ref _ _ _ :: ks, d, 0, _, _, h => by simp [initS] at h
 | n, .val _ _ :: ks, d, i + 1, _, _, h => zmra (n := n + 1) (ks := ks) (d := d.2) (i := i) (by simpa [initS] using h)
 | n, .fn _ :: ks, d, i + 1, _, _, h => zmra (n := n + 1) (ks := ks) (d := d.2) (i := i) (by simpa [initS] using h)
 | n, .ref _ _ _ :: ks, d, i + 1, _, _, h => zmra (n := n + 1) (ks := ks) (d := d.2) (i := i) (by simpa [initS] using h)
theorem zVoa : ∀ {n : Nat} {ks : List PK} {d : DI ks} {i : Nat} {l : List SV}, (initS n ks d).getD i .un ≠ .tup l
 | _, [], _, i, _, h => by simp [initS] at h
 | n, .val _ _ :: ks, d, 0, _, h => by simp [initS] at h
 | n, .fn _ :: ks, d, 0, _, h => by simp [initS] at h
 | n, .ref _ _ _ :: ks, d, 0, _, h => by simp [initS] at h
 | n, .val _ _ :: ks, d, i + 1, _, h => zVoa (n := n + 1) (ks := ks) (d := d.2) (i := i) (by simpa [initS] using h)
 | n, .fn _ :: ks, d, i + 1, _, h => zVoa (n := n + 1) (ks := ks) (d := d.2) (i := i) (by simpa [initS] using h)
 | n, .ref _ _ _ :: ks, d, i + 1, _, h => zVoa (n := n + 1) (ks := ks) (d := d.2) (i := i) (by simpa [initS] using h)
theorem zcla {F : Blks} {w : World} {e : Entry} {st : St} {V : Nat → Value} {fp : Nat → Blks} {fl : Blks} {R : Type} {res : R} (hS : SR e F w st V fp fl) : ∀ {n : Nat} {ks : List PK} {K : DB ks → Option R} {vs : List Value}, backS ks n st K = some res → (∀ j u, vs[j]? = some u → V (gh0 + n + j) = u) →
  ∃ b, K b = some res ∧ BackR F w ks b vs (fun i => fp (gh0 + n + i))
 | _, [], _, vs, h, _ => ⟨(), h, by cases vs <;> trivial⟩
 | n, .val _ _ :: ks, K, vs, h, hV => by
  obtain ⟨b, h1, h2⟩ := zcla hS (n := n + 1) (ks := ks) (vs := vs.tail) h (fun j u hj => by
   rw [show gh0 + (n + 1) + j = gh0 + n + (j + 1) by omega]
   cases vs with
   | nil => simp at hj
   | cons v vs => exact hV (j + 1) u (by simpa using hj))
  refine ⟨b, h1, ?_⟩
  cases vs with
  | nil => exact zxja
  | cons v vs => simpa [BackR, Nat.add_assoc, Nat.add_comm 1] using h2
 | n, .fn _ :: ks, K, vs, h, hV => by
  obtain ⟨b, h1, h2⟩ := zcla hS (n := n + 1) (ks := ks) (vs := vs.tail) h (fun j u hj => by
   rw [show gh0 + (n + 1) + j = gh0 + n + (j + 1) by omega]
   cases vs with
   | nil => simp at hj
   | cons v vs => exact hV (j + 1) u (by simpa using hj))
  refine ⟨b, h1, ?_⟩
  cases vs with
  | nil => exact zxja
  | cons v vs => simpa [BackR, Nat.add_assoc, Nat.add_comm 1] using h2
 | n, .ref t m m' :: ks, K, vs, h, hV => by
  simp only [backS] at h
  split at h
  ·rename_i T u mu y hst
   cases y with
   | none => cases h
   | some c =>
    simp only at h
    split at h
    ·rename_i c' hc he
     obtain ⟨eu, hy⟩ := zhba hc
     subst eu
     simp only at hy
     subst hy
     have := Md.eqb_eq he
     subst this
     obtain ⟨b, h1, h2⟩ := zcla hS (n := n + 1) (ks := ks) (vs := vs.tail) h (fun j u hj => by
      rw [show gh0 + (n + 1) + j = gh0 + n + (j + 1) by omega]
      cases vs with
      | nil => simp at hj
      | cons v vs => exact hV (j + 1) u (by simpa using hj))
     refine ⟨(c, b), h1, ?_⟩
     cases vs with
     | nil => exact zxja
     | cons v vs =>
      have hv : V (gh0 + n) = v := hV 0 v rfl
      have hsv := hS.sv (gh0 + n)
      rw [hst, hv] at hsv
      refine ⟨zxqa (hsv.1 nofun), znqa hsv.2, ?_⟩
      simpa [Nat.add_assoc, Nat.add_comm 1] using h2
    ·cases h
  ·cases h
theorem zkea {e : Entry} {w : World} {V : Nat → Value} {fl : Blks} {R α : Type} {res : R} {C : Cx R} {k : RM α} {Kk : α → St → Option R} : ∀ {ks : List PK} {n : Nat} {F : Blks} {st : St} {fp : Nat → Blks}, SR e F w st V fp fl → (zBha ks n k).run C st Kk = some res →
  ∃ st' fp', ∃ F' : Blks, k.run C st' Kk = some res ∧ SR e F' w st' V fp' fl ∧ ∀ b, F b → F' b
 | [], _, F, st, fp, hS, h => ⟨st, fp, F, h, hS, fun _ hb => hb⟩
 | .val _ _ :: ks, n, F, st, fp, hS, h => zkea (ks := ks) (n := n + 1) hS h
 | .fn _ :: ks, n, F, st, fp, hS, h => zkea (ks := ks) (n := n + 1) hS h
 | .ref _ _ m' :: ks, n, F, st, fp, hS, h => by
  simp only [zBha, RM.run] at h
  split at h
  ·rename_i T u mu y hst
   split at h
   ·exact zkea (ks := ks) (n := n + 1) hS h
   ·split at h
    ·rename_i hl
     have hm : mu ≠ .j := fun hc => by subst hc; cases hl
     have hsv := hS.sv (gh0 + n)
     rw [hst] at hsv
     have hd : DataAt F w st V (V (gh0 + n)) (.ptr T u) mu y (some (gh0 + n, [])) :=
      ⟨hm, _, _, _, hst, y, by simp only [getP], by simp [ownP], by simp [inP], cv (V (gh0 + n)), none, by simp [rs], by
       have h1 : V (gh0 + n) = valOf (.ptr T u) (cv (V (gh0 + n))) := hsv.1 hm
       have h2 := PartOf.all (c' := cv (V (gh0 + n))) (.ptr T u) y
       rwa [← h1] at h2⟩
     obtain ⟨st1, fp1, fq, F1, h2, hS1, hF1, hv1, hm1, hrep1, hfl, _⟩ := zOma (m' := .o m') hS hd hl h
     simp only [setS, RM.run] at h2
     have hS2 := hS1.fillV (d := gh0 + n) (v := V (gh0 + n)) (fq := fq) (fl' := fl) (fun _ => rfl) (fun _ => hv1) hrep1 (fun b hb => .inr hb) (fun b hb => ⟨.inl hb, fun hc => hfl b hc hb⟩)
     rw [zoka] at hS2
     obtain ⟨st', fp', F', k1, k2, k3⟩ := zkea (ks := ks) (n := n + 1) hS2 h2
     exact ⟨st', fp', F', k1, k2, fun b hb => k3 b (hF1 b hb)⟩
    ·simp [RM.run] at h
  ·simp [RM.run] at h
theorem zIua {F : Blks} {w : World} : ∀ {ks : List (Ty × Md)} {d : DI (pks ks)} {vs : List Value} {fps : Nat → Blks}, ArgsR F w (pks ks) d vs fps → vs.length = (resV ks (toDR ks d)).length ∧
  ∀ {k : Nat} {t : Ty} {m : Md} {x : t.I}, (resV ks (toDR ks d))[k]? = some (.v t m x) → ∃ u, vs[k]? = some u ∧ (m ≠ .j → isV t u) ∧ rep F w t m x (cv u) (fps k)
 | [], _, vs, fps, h => by
  simp only [pks, ArgsR] at h
  subst h
  exact ⟨rfl, fun h => by simp [resV] at h⟩
 | q :: ks, d, vs, fps, h => by
  obtain ⟨v, vs', rfl, h2, h3, h4, h5⟩ := h
  obtain ⟨r1, r2⟩ := zIua h5
  refine ⟨by simp [resV, toDR, r1], fun {k t m x} hk => ?_⟩
  cases k with
  | zero =>
   simp only [resV, List.getElem?_cons_zero, Option.some.injEq, toDR] at hk
   cases hk
   exact ⟨v, rfl, fun _ => h2, h4⟩
  | succ k =>
   simp only [resV, List.getElem?_cons_succ, toDR] at hk
   obtain ⟨u, k1, k2, k3⟩ := r2 hk
   exact ⟨u, by simpa using k1, k2, k3⟩
def zAsa : List Value → Value
 | [v] => v
 | vs => .tuple vs.toArray
theorem zbxa {F : Blks} {w : World} {ks : List (Ty × Md)} {d : DI (pks ks)} {vs : List Value} {fps : Nat → Blks} (hd : Disj fps) (h : ArgsR F w (pks ks) d vs fps) : ResR F w (zAsa vs) (fun b => ∃ i, fps i b) (resS ks (toDR ks d)) := by
 obtain ⟨h1, h2⟩ := zIua h
 have hlen : vs.length = ks.length := by
  rw [zMna h]
  clear h h1 h2 d
  induction ks with
  | nil => rfl
  | cons q ks ih => simp [pks, ih]
 have htup : ResR F w (.tuple vs.toArray) (fun b => ∃ i, fps i b) (.tup (resV ks (toDR ks d))) :=
  ⟨vs, rfl, h1, fps, hd, fun k b hb => ⟨k, hb⟩, fun k t m x hk => h2 hk⟩
 rcases ks with _ | ⟨q, _ | ⟨q', ks⟩⟩
 ·obtain rfl : vs = [] := List.eq_nil_of_length_eq_zero hlen
  exact htup
 ·rcases vs with _ | ⟨v, _ | ⟨v', vs⟩⟩
  ·simp at hlen
  ·obtain ⟨u, k1, k2, k3⟩ := h2 (k := 0) rfl
   simp only [List.getElem?_cons_zero, Option.some.injEq] at k1
   subst k1
   exact ⟨k2, zFga (fun b hb => ⟨0, hb⟩) k3⟩
  ·simp at hlen
 ·rcases vs with _ | ⟨v, _ | ⟨v', vs⟩⟩
  ·simp at hlen
  ·simp at hlen
  ·exact htup
theorem ziqa {P : Program} {w : World} {tmps vals : Array Value} {f : ResultVar → Sem Value} (hf : ∀ t, (f (.tmp t)).run P w = .ok (tmps.getD t undef) w) :
  ∀ {rs : List (Nat × Option TypeId)}, (∀ r T, (r, some T) ∈ rs → (f (.cell r T)).run P w = .ok (vals.getD r undef) w) → (∀ r, (r, none) ∈ rs → vals.getD r undef = tmps.getD r undef) →
  ((rs.map toRV).mapM f).run P w = .ok ((zgla rs).map fun t => vals.getD t undef) w
 | [], _, _ => rfl
 | (r, none) :: rs, h1, h2 => by
  have ih := ziqa (vals := vals) hf (rs := rs) (fun r T h => h1 r T (List.mem_cons_of_mem _ h)) (fun r h => h2 r (List.mem_cons_of_mem _ h))
  simp only [List.map_cons, List.mapM_cons, Sem.run_bind, toRV, hf, Sem.run_pure, Result.andThen_ok, ih, zgla, h2 r List.mem_cons_self]
 | (r, some T) :: rs, h1, h2 => by
  have ih := ziqa (vals := vals) hf (rs := rs) (fun r T h => h1 r T (List.mem_cons_of_mem _ h)) (fun r h => h2 r (List.mem_cons_of_mem _ h))
  simp only [List.map_cons, List.mapM_cons, Sem.run_bind, toRV, h1 r T List.mem_cons_self, Sem.run_pure, Result.andThen_ok, ih, zgla]
theorem zroa {P : Program} {fn : Func} {w : World} {tmps vals : Array Value} {rs : List (Nat × Option TypeId)} (h : fn.results = (rs.map toRV).toArray)
  (h1 : ∀ r T, (r, some T) ∈ rs → (do loadVar T (← asAddr (tmps.getD r undef)) : Sem Value).run P w = .ok (vals.getD r undef) w) (h2 : ∀ r, (r, none) ∈ rs → vals.getD r undef = tmps.getD r undef) :
  (results fn tmps).run P w = .ok (zAsa ((zgla rs).map (fun t => vals.getD t undef))) w := by
 unfold results
 rw [h]
 simp only [Array.mapM_eq_mapM_toList, Sem.run_bind, Sem.run_map]
 rw [ziqa (tmps := tmps) (vals := vals) (fun t => rfl) h1 h2]
 simp only [Result.andThen_ok, Sem.run_pure]
 rcases rs with _ | ⟨r, _ | ⟨r', rs⟩⟩
 ·rfl
 ·rfl
 ·simp [zAsa, zgla]
theorem zjra {rs : List (Nat × Option TypeId)} {r : Nat} {T : TypeId} : (r, T) ∈ zoda rs ↔ (r, some T) ∈ rs := by
 induction rs with
 | nil => simp [zoda]
 | cons q rs ih =>
  obtain ⟨r', o⟩ := q
  cases o with
  | none => simp [zoda, ih]
  | some T' => simp [zoda, ih]
theorem zQra {st : St} {r : Nat} {v : SV} : ((st.put r .un).kill r []).put r v = (st.kill r []).put r v := by
 funext i
 by_cases hi : i = r
 ·subst hi; rw [zoca, zoca]
 ·rw [zGba hi, zGba hi]
  simp only [St.kill, zGba hi]
theorem zana {P : Program} {env : Env} {e : Entry} {F : Blks} {w : World} {α R : Type} {Kk : α → St → Option R} {res : R} {C : Cx R} {gh : Nat → Value} {k : RM α} (hE : EnvTy P env) : ∀ {cs : List (Nat × TypeId)} {st : St} {V : Nat → Value} {fp : Nat → Blks} {a : Act}, SR e F w st V fp none' → AR env gh a V → (zcqa env cs k).run C st Kk = some res →
  ∃ st' V' fp' a', k.run C st' Kk = some res ∧ SR e F w st' V' fp' none' ∧ AR env gh a' V' ∧ (∀ q ∈ cs, (do loadVar q.2 (← asAddr (a.tmps.getD q.1 undef)) : Sem Value).run P w = .ok (a'.tmps.getD q.1 undef) w) ∧ (∀ r, (∀ q ∈ cs, q.1 ≠ r) → a'.tmps.getD r undef = a.tmps.getD r undef)
 | [], st, V, fp, a, hS, hA, h => ⟨st, V, fp, a, h, hS, hA, fun q hq => by simp at hq, fun _ _ => rfl⟩
 | (r, T) :: cs, st, V, fp, a, hS, hA, h => by
  unfold zcqa at h
  split at h
  ·rename_i hck
   simp only [Bool.and_eq_true] at hck
   have hrn := zala hck.2
   simp only [RM.run] at h
   split at h
   ·rename_i U t m y hst
    cases y with
    | none => simp [RM.run] at h
    | some c =>
     simp only at h
     split at h
     ·rename_i hT
      simp only [Bool.and_eq_true, Bool.not_eq_true'] at hT
      simp only [RM.run] at h
      have hm : m ≠ .j := by rintro rfl; cases hT.2
      have hsv := hS.sv (env.b + r)
      rw [hst] at hsv
      have hrp := hsv.2
      simp only [rep] at hrp
      obtain ⟨A, e1, ad, rfl, hsp, e2, e3, f, e4, e5⟩ := hrp
      obtain ⟨b, o, sp⟩ := ad
      simp only at hsp
      subst hsp
      simp only at e2 e3 e4 e5
      have hone : t.agg = false → one (rowW w b o 0) := fun ha => zSha e5 hm ha
      have hS1 := (hS.drop (env.b + r)).fillV (d := env.b + r) (v := valOf t (rowW w b o)) (fq := f) (fl' := none') (hA.gd hrn) (fun _ => zdga hone) (zjaa (fun j hj => (ziga hone j hj).symm) e5)
       (fun b' hb' => .inr (e4 b' hb').1) (fun _ hb => hb.elim)
      rw [zQra] at hS1
      obtain ⟨st', V', fp', a', k1, k2, k3, k4, k5⟩ := zana hE hS1 (hA.put hrn) h
      have hval : a.tmps.getD r undef = .pointer (some ⟨b, o, none⟩) := by
       rw [hA.tmps r hrn, zNua (hsv.1 nofun)]
       exact e1
      have hother : ∀ r', r' ≠ r → (a.put (some r) (valOf t (rowW w b o))).tmps.getD r' undef = a.tmps.getD r' undef := fun r' hr' => by
       simp only [Act.put, Array.getD_eq_getD_getElem?]
       rw [Array.getElem?_setIfInBounds_ne (Ne.symm hr')]
      have hne : ∀ q ∈ cs, q.1 ≠ r := fun q hq hc => by
       have := List.all_eq_true.1 hck.1 q hq
       rw [hc, Nat.beq_refl] at this
       cases this
      refine ⟨st', V', fp', a', k1, k2, k3, fun q hq => ?_, fun r' hr' => ?_⟩
      ·rcases List.mem_cons.1 hq with hq | hq
       ·subst hq
        simp only
        rw [k5 r (fun q hq => hne q hq), hval]
        have hnew : (a.put (some r) (valOf t (rowW w b o))).tmps.getD r undef = valOf t (rowW w b o) := by
         have : r < a.tmps.size := by rw [hA.size]; exact hrn
         simp [Act.put, Array.getD, this]
        rw [hnew]
        simp only [asAddr, Sem.run_bind, Sem.run_pure, Result.andThen_ok]
        exact zBga (Env.is_ok hE hT.1) e3
       ·rw [← hother q.1 (hne q hq)]
        exact k4 q hq
      ·rw [k5 r' (fun q hq => hr' q (List.mem_cons_of_mem _ hq))]
       exact hother r' (fun hc => hr' (r, T) List.mem_cons_self hc.symm)
     ·simp [RM.run] at h
   ·simp [RM.run] at h
  ·simp [RM.run] at h
section
variable {P : Program} {env : Env} {inl : Inl}
def rvOk (rs : List (Nat × Option TypeId)) : Bool := rs.all fun q => match q.2 with
 | none => (zoda rs).all fun c => !(Nat.beq c.1 q.1)
 | some _ => true
theorem zHua {rs : List (Nat × Option TypeId)} (h : rvOk rs = true) : ∀ (r : Nat) (q : Nat × TypeId), (r, none) ∈ rs → q ∈ zoda rs → q.1 = r → False := by
 intro r q h1 h2 h3
 have := List.all_eq_true.1 h _ h1
 simp only at this
 have := List.all_eq_true.1 this q h2
 rw [h3, Nat.beq_refl] at this
 cases this
theorem zXva {f : FuncId} {fn : Func} {code : Code} {c : CSpec} {rs : List (Nat × Option TypeId)} {lp : Loops} (hm : P.follows .mixedOrders = true) (hE : EnvTy P env) (hF : EnvFn P env) (hI : InlOk P env.top inl) (hf : P.funcs[f]? = some fn) (hname : (fn.name == "runtime.NumGoroutine") = false) (hb : fn.body = some code) (hr : fn.results = (rs.map toRV).toArray)
  (hn : env.n = fn.ntmps) (hlen : (Nat.ble c.ins.length fn.ntmps && (Nat.blt fn.ntmps gh0 && (Nat.beq env.b 0 && !env.df))) = true) (hL : zZaa env lp inl code) (hrd : rvOk rs = true)
  (hev : ∀ (d : DI c.ins) (R : Type) (K : DR c.outs → DB c.ins → Option R) (Kp : PI c.pan → DB c.ins → Option R) (res : R), c.fn d K Kp = some res → evC env lp inl code (St.start c.ins d) (retK env c.ins c.outs rs c.pan K Kp) = some res) : Holds P f c := by
 refine ⟨⟨fn, code, hf, hname, hb⟩, ?_⟩
 intro F w d vs fps R K Kp res hGl hFs hd hfp hargs hcall
 have hnd := zHua hrd
 have hvl := zMna hargs
 simp only [Bool.and_eq_true, Bool.not_eq_true'] at hlen
 have hle := Nat.le_of_ble_eq_true hlen.1
 have hlim := zala hlen.2.1
 have hb0 := Nat.eq_of_beq_eq_true hlen.2.2.1
 have hdf := hlen.2.2.2
 refine calls_of_wp hf hb ?_
 let e : Entry := ⟨w, fun b => ∃ i, fps i b, F⟩
 let gh : Nat → Value := fun i => vs.getD (i - gh0) undef
 let tm : Array Value := vs.toArray ++ Array.replicate (fn.ntmps - vs.toArray.size) undef
 let V0 : Nat → Value := fun i => if gh0 ≤ i then vs.getD (i - gh0) undef else tm.getD i undef
 let fp0 : Nat → Blks := fun i b => if gh0 ≤ i then refAt c.ins (i - gh0) = true ∧ i - gh0 < vs.length ∧ fps (i - gh0) b else refAt c.ins i = false ∧ i < vs.length ∧ fps i b
 have htm : ∀ i v, vs[i]? = some v → tm.getD i undef = v := by
  intro i v hv
  have hi : i < vs.length := (List.getElem?_eq_some_iff.1 hv).1
  simp only [tm, Array.getD_eq_getD_getElem?]
  rw [Array.getElem?_append_left (by simpa using hi)]
  simp [hv]
 have hgh : ∀ j v, vs[j]? = some v → V0 (gh0 + 0 + j) = v := by
  intro j v hv
  show (if gh0 ≤ gh0 + 0 + j then vs.getD (gh0 + 0 + j - gh0) undef else _) = v
  rw [if_pos (by omega), show gh0 + 0 + j - gh0 = j by omega, List.getD_eq_getElem?_getD, hv]
  rfl
 have hstg : ∀ j, St.start c.ins d (gh0 + 0 + j) = (ghS c.ins d).getD j .un := by
  intro j
  unfold St.start
  rw [show Nat.ble gh0 (gh0 + 0 + j) = true from Nat.ble_eq_true_of_le (by omega)]
  simp only
  rw [show gh0 + 0 + j - gh0 = j by omega]
 have hA0 : AR env gh { tmps := tm, defers := [] } V0 := ⟨by simp only [tm, Array.size_append, List.size_toArray, Array.size_replicate]; omega, fun i hi => by
  show tm.getD i undef = if gh0 ≤ env.b + i then _ else _
  rw [if_neg (by omega), hb0, Nat.zero_add], by rw [hdf], by omega, fun i hi => by
  rcases hi with hi | hi
  ·omega
  ·exact if_pos hi⟩
 have hfp0 : ∀ i b, fp0 i b → ∃ j, fps j b := by
  intro i b hb
  simp only [fp0] at hb
  split at hb
  ·exact ⟨_, hb.2.2⟩
  ·exact ⟨_, hb.2.2⟩
 have hS0 : SR e F w (St.start c.ins d) V0 fp0 none' := by
  refine ⟨fun i => ?_, ⟨fun i j hij b hb hb' => ?_⟩, fun i b hb => ?_, fun i b hb => ?_, hFs, fun _ _ _ hb => hb.elim, fun _ hb => hb.elim, fun _ hb => hb.elim, Grew.refl _, fun _ _ _ => rfl, fun i b hb => .inl (hfp0 i b hb), fun _ hb => hb.elim, fun _ hb => hb, fun _ hb => .inl hb⟩
  ·by_cases hgi : gh0 ≤ i
   ·obtain ⟨j, rfl⟩ : ∃ j, i = gh0 + 0 + j := ⟨i - gh0, by omega⟩
    rw [hstg j]
    by_cases hj : j < vs.length
    ·have hv : vs[j]? = some vs[j] := List.getElem?_eq_getElem hj
     rw [hgh j _ hv]
     rcases gh_sv (st := St.start c.ins d) (V := V0) hargs hv with ⟨h1, h2⟩ | ⟨h1, h2⟩
     ·have hfi : ∀ b, fps j b → fp0 (gh0 + 0 + j) b := fun b hb => by
       show if gh0 ≤ gh0 + 0 + j then _ else _
       rw [if_pos (by omega), show gh0 + 0 + j - gh0 = j by omega]
       exact ⟨h1, hj, hb⟩
      cases hsi : (ghS c.ins d).getD j .un with
      | v t m x => rw [hsi] at h2; exact ⟨h2.1, zFga hfi h2.2⟩
      | tup l =>
       rw [hsi] at h2
       obtain ⟨vs', e1, e2, fs, e3, e4, e5⟩ := h2
       exact ⟨vs', e1, e2, fs, e3, fun k b hb => hfi b (e4 k b hb), e5⟩
      | al r q => rw [hsi] at h2; exact h2
      | lz r q => rw [hsi] at h2; exact h2
      | sub r q lo hi => rw [hsi] at h2; exact h2
      | bx r q => rw [hsi] at h2; exact h2
      | ifc T t1 x1 => rw [hsi] at h2; exact h2
      | fn f s caps => rw [hsi] at h2; exact h2
      | nil => rw [hsi] at h2; exact h2
      | un => trivial
     ·rw [h2]; trivial
    ·have : (ghS c.ins d).getD j .un = .un := by
      have : (ghS c.ins d).length ≤ j := by rw [ztra, ← hvl]; omega
      simp [List.getD, this]
     rw [this]
     trivial
   ·have hst : St.start c.ins d i = (initS 0 c.ins d).getD i .un := by
     unfold St.start
     rw [show Nat.ble gh0 i = false from by
      cases hb : Nat.ble gh0 i with
      | false => rfl
      | true => exact absurd (Nat.le_of_ble_eq_true hb) hgi]
    have hVi : V0 i = tm.getD i undef := if_neg hgi
    rw [hst, hVi]
    by_cases hi : i < vs.length
    ·have hv : vs[i]? = some vs[i] := List.getElem?_eq_getElem hi
     have := zBra (n := 0) (st := St.start c.ins d) (V := V0) hargs hv (fun j t m x hj => by
      rw [hstg j, List.getD_eq_getElem?_getD, hj]
      rfl) hgh
     rw [htm i _ hv]
     cases hsi : (initS 0 c.ins d).getD i .un with
     | v t m x =>
      rw [hsi] at this
      refine ⟨this.1, zFga (fun b hb => ?_) this.2⟩
      show if gh0 ≤ i then _ else _
      rw [if_neg hgi]
      exact ⟨znua hsi, hi, hb⟩
     | tup l => exact absurd hsi zVoa
     | al r q => rw [hsi] at this; exact this
     | lz r q => rw [hsi] at this; exact this
     | sub r q lo hi => rw [hsi] at this; exact this
     | bx r q => exact absurd hsi zmra
     | ifc T t1 x1 => rw [hsi] at this; exact this
     | fn f s caps => rw [hsi] at this; exact this
     | nil => rw [hsi] at this; exact this
     | un => trivial
    ·have : (initS 0 c.ins d).getD i .un = .un := by
      have : (initS 0 c.ins d).length ≤ i := by rw [zTma, ← hvl]; omega
      simp [List.getD, this]
     rw [this]
     trivial
  ·simp only [fp0] at hb hb'
   split at hb <;> split at hb'
   ·exact hd.disj _ _ (by omega) b hb.2.2 hb'.2.2
   ·by_cases hq : i - gh0 = j
    ·rw [hq] at hb; rw [hb.1] at hb'; cases hb'.1
    ·exact hd.disj _ _ hq b hb.2.2 hb'.2.2
   ·by_cases hq : i = j - gh0
    ·rw [← hq] at hb'; rw [hb.1] at hb'; cases hb'.1
    ·exact hd.disj _ _ hq b hb.2.2 hb'.2.2
   ·exact hd.disj _ _ hij b hb.2.2 hb'.2.2
  ·obtain ⟨j, hb⟩ := hfp0 i b hb; exact (hfp j b hb).1
  ·obtain ⟨j, hb⟩ := hfp0 i b hb; exact (hfp j b hb).2
 have hgv : ∀ {V : Nat → Value} {a : Act}, AR env gh a V → ∀ j u, vs[j]? = some u → V (gh0 + 0 + j) = u := fun hA j u hj => by
  rw [hA.keep _ (.inr (by omega))]
  show vs.getD (gh0 + 0 + j - gh0) undef = u
  rw [show gh0 + 0 + j - gh0 = j by omega, List.getD_eq_getElem?_getD, hj]
  rfl
 have hdef : ∀ {V : Nat → Value} {a : Act}, AR env gh a V → a.defers = [] := fun hA => by have := hA.defers; rwa [hdf] at this
 refine zwra hm hE hF hI (e := e) ⟨hGl, fun b hb => ⟨fun ⟨i, hc⟩ => (hfp i b hc).1 hb, hFs b hb⟩⟩ hL (fun _ _ _ _ _ _ h => h) ⟨?_, ?_⟩ hS0 hA0 (hev d R K Kp res hcall)
 case refine_2 =>
  intro p ch F1 w1 st1 V1 fp1 a1 hS hA hp h
  simp only [retK] at h
  split at h
  ·rename_i y hy
   obtain ⟨st1, fp1, F1, h, hS, hFF⟩ := zkea hS h
   replace hp := hp.mono hFF
   simp only [RM.run] at h
   obtain ⟨rb, k1, kb⟩ := zcla hS (vs := vs) h (hgv hA)
   refine ⟨hdef hA, rb, F1, none', fun i => fp1 (gh0 + 0 + i), .inr ⟨ch, y, rfl, k1, by rw [zzva hy]; exact hp⟩, fun b hb => hS.g5 b hb, hS.g1, fun b hb hno => hS.g2 b hb (fun hc => by obtain ⟨i, hc⟩ := hc; exact hno i hc),
    ⟨⟨fun i j hij b hb hb' => hS.disj.disj _ _ (by omega) b hb hb'⟩, fun i b hb hc => hc, kb⟩, fun b hb => ?_, fun b hb => ⟨hS.inF b hb, hS.g6 b hb⟩⟩
   rcases hb with hb | ⟨i, hb⟩
   ·exact hb.elim
   ·exact ⟨hS.notF _ b hb, hS.inH _ b hb, hS.g3 _ b hb⟩
  ·cases h
 intro x F1 w1 st1 V1 fp1 a1 hx hS hA h
 have key : (zcqa env (zoda rs) (zyia env false (pks c.outs) ((zgla rs).map Operand.tmp) [] fun d _ _ => zBha c.ins 0 (.ret (toDR c.outs d)))).run Cx.no st1 (fun r st => backS c.ins 0 st fun b => K r b) = some res → a1.defers = [] ∧ ∃ v, (results fn a1.tmps).run P w1 = .ok v w1 ∧ ∃ rb, ∃ F' fo : Blks, ∃ fb : Nat → Blks, ((∃ v' ro, Ending.returned v = .returned v' ∧ K ro rb = some res ∧ ResR F' w1 v' fo (resS c.outs ro)) ∨ (∃ ch pi, Ending.returned v = .panicked ch ∧ Kp pi rb = some res ∧ PanR F' w1 (PI.pan c.pan pi) ch)) ∧ (∀ b, F b → F' b) ∧ Grew w w1 ∧ (∀ b, b < w.heap.size → (∀ i, ¬ fps i b) → Same w w1 b) ∧
   (Disj fb ∧ (∀ i b, fb i b → ¬ fo b) ∧ BackR F' w1 c.ins rb vs fb) ∧ (∀ b, (fo b ∨ ∃ i, fb i b) → ¬ F' b ∧ b < w1.heap.size ∧ ((∃ i, fps i b) ∨ w.heap.size ≤ b)) ∧ (∀ b, F' b → b < w1.heap.size ∧ (F b ∨ (∃ i, fps i b) ∨ w.heap.size ≤ b)) := by
  intro h
  obtain ⟨st2, V2, fp2, a2, h, hS2, hA2, u1, u2⟩ := zana hE hS hA h
  obtain ⟨st', fp', fl', F', d', ms, bs, fps', k1, k2, k3, k4, k5, k6, k7, k8, k9⟩ := zzda hA2 hS2 h
  obtain ⟨st', fpm, F2, k1, k2, hFF⟩ := zkea k2 k1
  simp only [RM.run] at k1
  obtain ⟨rb, k1, kb⟩ := zcla k2 (vs := vs) k1 (hgv hA2)
  have hnd' : ∀ (r : Nat) (q : Nat × TypeId), (r, none) ∈ rs → q ∈ zoda rs → q.1 = r → False := hnd
  refine ⟨hdef hA, _, zroa (vals := a2.tmps) hr (fun r T hq => u1 (r, T) (zjra.2 hq)) (fun r hq => u2 r (fun q hqc hc => hnd' r q hq hqc hc)), rb, F2, fun b => ∃ i, fps' i b, fun i => fpm (gh0 + 0 + i), .inl ⟨_, toDR c.outs d', rfl, k1, ?_⟩, fun b hb => k2.g5 b hb, k2.g1, fun b hb hno => k2.g2 b hb (fun hc => by obtain ⟨i, hc⟩ := hc; exact hno i hc), ⟨⟨fun i j hij b hb hb' => k2.disj.disj _ _ (by omega) b hb hb'⟩, fun i b hb hc => ?_, kb⟩, fun b hb => ?_, fun b hb => ⟨k2.inF b hb, k2.g6 b hb⟩⟩
  ·have hbs := k8 rfl
   subst hbs
   have h9 : ArgsR F2 w1 (pks c.outs) d' (((zgla rs).map Operand.tmp).map a2.eval) fps' := k9.mono (fun b hb => by
    rcases hb with hb | ⟨r, hr, _⟩
    ·exact hFF b hb
    ·cases hr)
   have := zbxa k5 h9
   have e1 : ((zgla rs).map Operand.tmp).map a2.eval = (zgla rs).map (fun t => a2.tmps.getD t undef) := by
    rw [List.map_map]; rfl
   rw [e1] at this
   exact this
  ·obtain ⟨j, hc⟩ := hc
   exact k2.flD _ b hb (k6 j b hc).1
  ·rcases hb with ⟨i, hb⟩ | ⟨i, hb⟩
   ·exact ⟨k2.flF b (k6 i b hb).1, k2.flH b (k6 i b hb).1, k2.g4 b (k6 i b hb).1⟩
   ·exact ⟨k2.notF _ b hb, k2.inH _ b hb, k2.g3 _ b hb⟩
 cases x with
 | exit i => cases h
 | pan p => cases hx
 | normal => exact key h
 | ret => exact key h
end
end Go.Trm
namespace Go.Trm
def zlea : Code → List Code
 | .seq a b => zlea a ++ zlea b
 | .cond _ a b => zlea a ++ zlea b
 | .block _ c => zlea c
 | .scope c => zlea c
 | .loop c => c :: zlea c
 | _ => []
end Go.Trm
namespace Go.Trm
def zmea (env : Env) : Code → List (Code × Nat)
 | .seq a b => zmea env a ++ (zmea env b ++ (match zWva env b with | some i => [(a, i)] | none => []))
 | .cond _ a b => zmea env a ++ zmea env b
 | .block _ c => zmea env c
 | .scope c => zmea env c
 | .loop c => zmea env c
 | _ => []
theorem zCaa {env : Env} {lp : Loops} {inl : Inl} : ∀ {code : Code}, (∀ c ∈ zlea code, zrha env lp inl c) → (∀ q ∈ zmea env code, zQfa env lp inl q.1 q.2) → zZaa env lp inl code := by
 intro code
 induction code with
 | seq a b iha ihb =>
  intro h g
  refine ⟨iha (fun c hc => h c (List.mem_append.2 (.inl hc))) (fun q hq => g q (List.mem_append.2 (.inl hq))), ihb (fun c hc => h c (List.mem_append.2 (.inr hc))) (fun q hq => g q (List.mem_append.2 (.inr (List.mem_append.2 (.inl hq))))), fun i hi => ?_⟩
  exact g (a, i) (List.mem_append.2 (.inr (List.mem_append.2 (.inr (by rw [hi]; exact List.mem_cons_self)))))
 | cond x a b iha ihb => intro h g; exact ⟨iha (fun c hc => h c (List.mem_append.2 (.inl hc))) (fun q hq => g q (List.mem_append.2 (.inl hq))), ihb (fun c hc => h c (List.mem_append.2 (.inr hc))) (fun q hq => g q (List.mem_append.2 (.inr hq)))⟩
 | block i c ih => intro h g; exact ih h g
 | scope c ih => intro h g; exact ih h g
 | loop c ih => intro h g; exact ⟨h c List.mem_cons_self, ih (fun c' hc => h c' (List.mem_cons_of_mem _ hc)) g⟩
 | _ => intro h g; trivial
theorem zraa {env : Env} {lp : Loops} {inl : Inl} {code : Code} (h : zlea code = []) (g : zmea env code = []) : zZaa env lp inl code :=
 zCaa (fun c hc => by rw [h] at hc; cases hc) (fun q hq => by rw [g] at hq; cases hq)
theorem zzwa {env : Env} {lp : Loops} {inl : Inl} {c : Code} {i : Nat} (h : zoha c = some i) (g : ∀ (R : Type) (st : St) (K : Ex → St → Option R), lp false i R st K = none) : zrha env lp inl c :=
 fun j hj R st K r hr => by
  rw [h] at hj; cases hj; rw [g] at hr; cases hr
theorem zywa {env : Env} {lp : Loops} {inl : Inl} (g : ∀ (z : Bool) (i : Nat) (R : Type) (st : St) (K : Ex → St → Option R), lp z i R st K = none) (c : Code) : zZaa env lp inl c :=
 zCaa (fun c _ => fun j _ R st K r hr => by rw [g] at hr; cases hr) (fun q _ => fun R st K r hr => by rw [g] at hr; cases hr)
def loopN {X R : Type} (B : (X → Option R) → X → Option R) : Nat → X → Option R
 | 0, _ => none
 | n + 1, x => B (loopN B n) x
theorem zIxa : ∃ n : Nat, n = 18446744073709551616 := ⟨_, rfl⟩
noncomputable def zyfa : Nat := Classical.choose zIxa
theorem zura : zyfa = 18446744073709551616 := Classical.choose_spec zIxa
theorem zWsa {l : List Nat} {st : St} : ∀ {i}, (St.ofList (l.map fun s => (s, st s))) i = if i ∈ l then st i else .un := by
 intro i
 induction l with
 | nil => rfl
 | cons s l ih =>
  simp only [List.map_cons, St.ofList]
  cases hb : Nat.beq i s with
  | true => obtain rfl := Nat.eq_of_beq_eq_true hb; simp
  | false =>
   have : i ≠ s := fun hc => by subst hc; rw [Nat.beq_refl] at hb; cases hb
   simp only [ih, List.mem_cons, this, false_or]
theorem zbua {l : List Nat} {st : St} : (st.only l).only l = st.only l := by
 funext i
 simp only [St.only, zWsa]
 split
 ·rfl
 ·rfl
theorem zkja {R : Type} {T : Unit → St → Option R} {r : R} : ∀ {l : List (Nat × Bool)} {st : St}, (zUla l).run Cx.no st T = some r → ∃ st', (∀ (R' : Type) (T' : Unit → St → Option R'), (zUla l).run Cx.no st T' = T' () st') ∧ T () st' = some r
 | [], st, h => ⟨st, fun _ _ => rfl, h⟩
 | (s, false) :: l, st, h => by
  obtain ⟨st', h1, h2⟩ := zkja (l := l) (st := st) h
  exact ⟨st', h1, h2⟩
 | (s, true) :: l, st, h => by
  have hfz : ∀ {st : St}, (zOfa (some (s, [])) (zUla l)).run Cx.no st T = some r → ∃ st', (∀ (R' : Type) (T' : Unit → St → Option R'), (zOfa (some (s, [])) (zUla l)).run Cx.no st T' = T' () st') ∧ T () st' = some r := by
   intro st h
   simp only [zOfa, RM.run] at h ⊢
   cases hs : st s with
   | v t m x =>
    simp only [hs] at h ⊢
    cases hg : getP t m x [] with
    | none => simp only [hg] at h; simp [RM.run] at h
    | some q =>
     obtain ⟨u, mo, y⟩ := q
     simp only [hg] at h ⊢
     split at h
     ·rename_i m' x' hn hp
      simp only [RM.run] at h
      simp only [hn, hp, RM.run]
      obtain ⟨st', h1, h2⟩ := zkja (l := l) h
      exact ⟨st', h1, h2⟩
     ·simp [RM.run] at h
   | _ => simp only [hs] at h; simp [RM.run] at h
  unfold zUla at h ⊢
  simp only [RM.run] at h ⊢
  cases hs : st s with
  | v t m x =>
   simp only [hs] at h ⊢
   cases m with
   | s =>
    obtain ⟨st', h1, h2⟩ := zkja (l := l) (st := st) h
    exact ⟨st', h1, h2⟩
   | j => simp [RM.run] at h
   | o m => exact hfz h
   | p m1 m2 => exact hfz h
  | _ =>
   simp only [hs] at h ⊢
   obtain ⟨st', h1, h2⟩ := zkja (l := l) (st := st) h
   exact ⟨st', h1, h2⟩
theorem zSpa {R : Type} {T : St → Option R} {r : R} {l : List (Nat × Bool)} {st : St} (h : zPfa l st T = some r) : ∃ st', (∀ (R' : Type) (T' : St → Option R'), zPfa l st T' = T' (St.only st' (l.map Prod.fst))) ∧ T (St.only st' (l.map Prod.fst)) = some r := by
 obtain ⟨st', h1, h2⟩ := zkja (l := l) (st := st) h
 exact ⟨st', fun R' T' => h1 R' _, h2⟩
section
variable {env : Env} {lp : Loops} {inl : Inl} {c : Code} {hd : List (Nat × Bool)} {out : Ex → List (Nat × Bool)}
theorem zrxa {R X : Type} {S : X → St} {K : Ex → St → Option R} {B : (X → Option R) → X → Option R}
  (step : ∀ (rec : St → Option R) (x : X), evC env lp inl c (S x) (fun e st => match e with | .normal => zPfa hd st rec | e => zPfa (out e) st (K e)) = B (fun x => rec (S x)) x) :
  ∀ n x, zvoa env lp inl c hd out n (S x) K = loopN B n x := by
 intro n
 induction n with
 | zero => intro x; rfl
 | succ n ih =>
  intro x
  have h := step (fun st => zvoa env lp inl c hd out n st K) x
  rw [show (fun x => zvoa env lp inl c hd out n (S x) K) = loopN B n from funext ih] at h
  exact h
theorem zgua {X : Type} {S : X → St} (B : (R : Type) → (Ex → St → Option R) → (X → Option R) → X → Option R) (fuel : X → Nat) (i : Nat)
  (step : ∀ (R : Type) (K : Ex → St → Option R) (rec : St → Option R) (x : X), evC env lp inl c (S x) (fun e st => match e with | .normal => zPfa hd st rec | e => zPfa (out e) st (K e)) = B R K (fun x => rec (S x)) x)
  (hi : zoha c = some i) (g : (R : Type) → (Ex → St → Option R) → St → Option R) (hlp : ∀ R st K, lp false i R st K = zPfa hd st (g R K)) (hg : ∀ R st K r, g R K (St.only st (hd.map Prod.fst)) = some r → ∃ x, St.only st (hd.map Prod.fst) = S x ∧ loopN (B R K) (fuel x) x = some r) : zrha env lp inl c := by
 intro j hj R st K r h
 rw [hi] at hj
 cases hj
 rw [hlp] at h
 obtain ⟨st', h1, h2⟩ := zSpa h
 obtain ⟨x, h3, h4⟩ := hg R st' K r h2
 refine ⟨hd, out, fuel x, ?_⟩
 rw [h1, h3, zrxa (step R K) (fuel x) x]
 exact h4
theorem zjua {X : Type} {S : X → St} (J : (R : Type) → (Ex → St → Option R) → X → Option R) (i : Nat)
  (step : ∀ (R : Type) (K : Ex → St → Option R) (x : X), evC env lp inl c (S x) (fun e st => zPfa (out e) st (K e)) = J R K x)
  (g : (R : Type) → (Ex → St → Option R) → St → Option R) (hlp : ∀ R st K, lp true i R st K = zPfa hd st (g R K)) (hg : ∀ R st K r, g R K (St.only st (hd.map Prod.fst)) = some r → ∃ x, St.only st (hd.map Prod.fst) = S x ∧ J R K x = some r) : zQfa env lp inl c i := by
 intro R st K r h
 rw [hlp] at h
 obtain ⟨st', h1, h2⟩ := zSpa h
 obtain ⟨x, h3, h4⟩ := hg R st' K r h2
 refine ⟨hd, out, ?_⟩
 rw [h1, h3, step R K x]
 exact h4
end
end Go.Trm
namespace Go.Trm
def ztva {α : Type} (env : Env) (r : Nat) (k : SV → RM α) : RM α :=
 match Nat.blt r env.n with
 | false => .fail
 | true => .get (env.b + r) fun v => match v with
  | .v t .s y => k (.v t .s y)
  | .v _ .j _ => .fail
  | .v t m y => take (some (env.b + r, [])) (k (.v t m y))
  | .tup _ => .fail
  | .un => .fail
  | .bx _ _ => .fail
  | .lz q p => match hi env.b q with
   | true => rdV env 0 (.tmp r) fun t m y src => take src (k (.v t m y))
   | false => k (.lz q p)
  | v => match v.cut env.b with
   | .un => .fail
   | _ => k v
def zBsa {α : Type} (env : Env) : List Nat → (List SV → RM α) → RM α
 | [], k => k []
 | r :: rs, k => rdV env 0 (.tmp r) fun t m y src => take src (zBsa env rs fun l => k (.v t m y :: l))
def zVta {α : Type} (env : Env) (rs : List Nat) (k : SV → RM α) : RM α :=
 match rs with
 | [r] => ztva env r k
 | rs => zBsa env rs fun l => k (.tup l)
noncomputable def inlK {R : Type} (env : Env) (rs : List (Nat × Option TypeId)) (K : SV → St → Option R) (Kp : PanV → St → Option R) : Ex → St → Option R
 | .exit _, _ => none
 | .pan p, st => Kp p (st.leave env.b)
 | _, st => (zcqa env (zoda rs) (zVta env (zgla rs) fun sv => .ret sv)).run Cx.no st fun sv st => K sv (st.leave env.b)
def InlF (P : Program) (lim : Nat) (f : FuncId) (g : (R : Type) → St → List SV → (SV → St → Option R) → (PanV → St → Option R) → Option R) : Prop := ∀ (R : Type) st xs (K : SV → St → Option R) (Kp : PanV → St → Option R) res, g R st xs K Kp = some res →
 (∃ fn code, P.funcs[f]? = some fn ∧ (fn.name == "runtime.NumGoroutine") = false ∧ fn.body = some code) ∧
 ∀ (e : Entry) (F : Blks) (w : World) (V : Nat → Value) (fp : Nat → Blks) (vals : List Value) (Rp : Ending → World → Prop), GlE P e → SR e F w st V fp none' → vals.length = xs.length → (∀ (k : Nat) sv v, xs[k]? = some sv → vals[k]? = some v → svR F w st V none' v sv) →
  (∀ F' w' st' V' fp' fo v sv, SR e F' w' st' V' fp' fo → (∀ i, i < lim ∨ gh0 ≤ i → V' i = V i) → svR F' w' st' V' fo v sv → K sv st' = some res → Rp (.returned v) w') →
  (∀ F' w' st' V' fp' p ch, SR e F' w' st' V' fp' none' → (∀ i, i < lim ∨ gh0 ≤ i → V' i = V i) → PanR F' w' p ch → Kp p st' = some res → Rp (.panicked ch) w') →
  Calls P f vals.toArray w Rp
theorem zoya {P : Program} {lim : Nat} {inl : Inl} (h : ∀ f d, InlF P lim f (fun R st xs K Kp => inl f d R st xs K Kp)) : InlOk P lim inl := fun f d R st xs K Kp res hr => h f d R st xs K Kp res hr
noncomputable def inl0 : Inl := fun _ _ _ _ _ _ _ => none
theorem zTaa {P : Program} {lim : Nat} : InlOk P lim inl0 := fun _ _ _ _ _ _ _ _ h => by cases h
theorem zSxa {P : Program} {lim : Nat} {f : FuncId} : InlF P lim f (fun _ _ _ _ _ => none) := fun _ _ _ _ _ _ h => by cases h
section
variable {P : Program} {env : Env} {e : Entry} {F : Blks} {w : World} {st : St} {V : Nat → Value} {fp : Nat → Blks} {fl : Blks} {a : Act} {R : Type} {res : R} {C : Cx R} {gh : Nat → Value}
theorem zRpa (b : Bool) (v : SV) : cond b .un v = v ∨ cond b .un v = SV.un := by cases b <;> simp
theorem zyra (b : Nat) (v : SV) : v.cut b = v ∨ v.cut b = .un := by
 cases v with
 | al r p => exact zRpa _ _
 | lz r p => exact zRpa _ _
 | sub r p l h => exact zRpa _ _
 | fn f s c => exact zRpa _ _
 | bx r p => exact zRpa _ _
 | _ => exact .inl rfl
theorem SR.weak {st' : St} (hS : SR e F w st V fp fl) (hon : ∀ i, st' i = st i ∨ st' i = .un) : SR e F w st' V fp fl := by
 have hst : ∀ r, ∀ {t1 m1 x1}, st' r = .v t1 m1 x1 → st r = .v t1 m1 x1 := by
  intro r t1 m1 x1 h
  rcases hon r with h1 | h1
  ·rw [← h1]; exact h
  ·rw [h1] at h; cases h
 have hal : ∀ r q v, AlOk w st V r q v → AlOk w st' V r q v := fun r q v ha t1 m1 x1 h1 => ha t1 m1 x1 (hst r h1)
 refine ⟨fun i => ?_, hS.disj, hS.notF, hS.inH, hS.inF, hS.flD, hS.flF, hS.flH, hS.g1, hS.g2, hS.g3, hS.g4, hS.g5, hS.g6⟩
 rcases hon i with h1 | h1
 ·rw [h1]
  have h2 := hS.sv i
  cases hsi : st i with
  | v t1 m1 x1 => rw [hsi] at h2; exact h2
  | al r q => rw [hsi] at h2; exact hal _ _ _ h2
  | lz r q => rw [hsi] at h2; exact fun t1 m1 x1 h3 => h2 t1 m1 x1 (hst r h3)
  | sub r q lo hi => rw [hsi] at h2; exact fun t1 m1 x1 h3 => h2 t1 m1 x1 (hst r h3)
  | fn f s caps =>
   rw [hsi] at h2
   obtain ⟨us, vs, e1, e2, e3⟩ := h2
   exact ⟨us, vs, e1, e2.imp (fun _ _ hb => hb) fun q u _ => hal _ _ _, e3.imp (fun _ _ hb => hb) fun q u _ => hal _ _ _⟩
  | bx r q =>
   rw [hsi] at h2
   exact h2
  | ifc T t1 x1 => rw [hsi] at h2; exact h2
  | tup l => rw [hsi] at h2; exact h2
  | nil => rw [hsi] at h2; exact h2
  | un => trivial
 ·rw [h1]; trivial
theorem zBna (st : St) (b : Nat) : ∀ i, (st.leave b) i = st i ∨ (st.leave b) i = .un := by
 intro i
 unfold St.leave
 split
 ·exact .inr rfl
 ·exact zyra b _
theorem zYva {b i : Nat} : hi b i = true ↔ b ≤ i ∧ i < gh0 := by
 unfold hi
 rw [Bool.and_eq_true]
 constructor
 ·rintro ⟨h1, h2⟩; exact ⟨Nat.le_of_ble_eq_true h1, zala h2⟩
 ·rintro ⟨h1, h2⟩; exact ⟨Nat.ble_eq_true_of_le h1, Nat.ble_eq_true_of_le h2⟩
theorem zita {b i : Nat} : hi b i = false ↔ i < b ∨ gh0 ≤ i := by
 constructor
 ·intro h
  rcases Nat.lt_or_ge i b with h1 | h1
  ·exact .inl h1
  ·rcases Nat.lt_or_ge i gh0 with h2 | h2
   ·rw [zYva.2 ⟨h1, h2⟩] at h; cases h
   ·exact .inr h2
 ·intro h
  cases hb : hi b i with
  | false => rfl
  | true => have := zYva.1 hb; omega
theorem zFua {b : Nat} {st0 : St} {V0 : Nat → Value} (hV : ∀ r, hi b r = false → V0 r = V r) (hst : ∀ r {t m x}, hi b r = false → st0 r = .v t m x → st r = .v t m x) {fq : Blks} {v : Value} {sv : SV} (h : svR F w st V fq v sv) : svR F w st0 V0 fq v (sv.cut b) := by
 have hal : ∀ r q v, hi b r = false → AlOk w st V r q v → AlOk w st0 V0 r q v := by
  intro r q v hr ha t1 m1 x1 h1
  obtain ⟨a1, a2, a3, u1, c1, b1, o1, a4, a5⟩ := ha t1 m1 x1 (hst r hr h1)
  exact ⟨a1, a2, a3, u1, c1, b1, o1, by rw [hV r hr]; exact a4, a5⟩
 have hbx : ∀ r u, BxOk F w V r u → BxOk F w V0 r u := fun r u hb => hb.imp (fun _ hb => hb) (fun _ _ => rfl) (fun hr => hV r (zita.2 (.inr hr)))
 cases sv with
 | v t m x => exact h
 | al r p =>
  simp only [SV.cut]
  cases hr : hi b r with
  | true => trivial
  | false => exact hal _ _ _ hr h
 | lz r p =>
  simp only [SV.cut]
  cases hr : hi b r with
  | true => trivial
  | false =>
   intro t1 m1 x1 h1
   obtain ⟨a2, a3, u1, c1, ad1, a4, a5⟩ := h t1 m1 x1 (hst r hr h1)
   exact ⟨a2, a3, u1, c1, ad1, by rw [hV r hr]; exact a4, a5⟩
 | sub r p lo h' =>
  simp only [SV.cut]
  cases hr : hi b r with
  | true => trivial
  | false =>
   intro t1 m1 x1 h1
   obtain ⟨a2, a3, u1, c1, ad1, a4, a5⟩ := h t1 m1 x1 (hst r hr h1)
   exact ⟨a2, a3, u1, c1, ad1, by rw [hV r hr]; exact a4, a5⟩
 | fn f s caps =>
  simp only [SV.cut]
  cases hr : (s ++ caps).any fun c => hi b c.1 with
  | true => trivial
  | false =>
   obtain ⟨k1, k2⟩ := zBta hr
   obtain ⟨us, vs, e1, e2, e3⟩ := h
   exact ⟨us, vs, e1, e2.imp hbx fun q u hq => hal _ _ _ (k1 q hq), e3.imp hbx fun q u hq => hal _ _ _ (k2 q hq)⟩
 | bx r p =>
  simp only [SV.cut]
  cases hr : hi b r with
  | true => trivial
  | false => exact hbx _ _ h
 | ifc T t x => exact h
 | tup l => exact h
 | nil => exact h
 | un => trivial
theorem zSwa {fq fq' : Blks} (hf : ∀ b, fq b → fq' b) {v : Value} {sv : SV} (h : svR F w st V fq v sv) : svR F w st V fq' v sv := by
 cases sv with
 | v t m x => exact ⟨h.1, zFga hf h.2⟩
 | tup l =>
  obtain ⟨vs, e1, e2, fs, e3, e4, e5⟩ := h
  exact ⟨vs, e1, e2, fs, e3, fun k b hb => hf b (e4 k b hb), e5⟩
 | _ => exact h
theorem zmva {st' : St} (hon : ∀ i, st' i = st i ∨ st' i = .un) {fq : Blks} {v : Value} {sv : SV} (h : svR F w st V fq v sv) : svR F w st' V fq v sv := by
 have hst : ∀ r, ∀ {t1 m1 x1}, st' r = .v t1 m1 x1 → st r = .v t1 m1 x1 := by
  intro r t1 m1 x1 h
  rcases hon r with h1 | h1
  ·rw [← h1]; exact h
  ·rw [h1] at h; cases h
 have hal : ∀ r q v, AlOk w st V r q v → AlOk w st' V r q v := fun r q v ha t1 m1 x1 h1 => ha t1 m1 x1 (hst r h1)
 cases sv with
 | v t m x => exact h
 | al r p => exact hal _ _ _ h
 | lz r p => exact fun t1 m1 x1 h3 => h t1 m1 x1 (hst r h3)
 | sub r p lo h' => exact fun t1 m1 x1 h3 => h t1 m1 x1 (hst r h3)
 | fn f s caps =>
  obtain ⟨us, vs, e1, e2, e3⟩ := h
  exact ⟨us, vs, e1, e2.imp (fun _ _ hb => hb) fun q u _ => hal _ _ _, e3.imp (fun _ _ hb => hb) fun q u _ => hal _ _ _⟩
 | bx r p => exact h
 | ifc T t x => exact h
 | tup l => exact h
 | nil => exact h
 | un => trivial
theorem zopa {α : Type} {Kk : α → St → Option R} (hA : AR env gh a V) : ∀ {rs : List Nat} {k : List SV → RM α} {st : St} {fp : Nat → Blks} {fl : Blks}, SR e F w st V fp fl → (zBsa env rs k).run C st Kk = some res →
  ∃ l st' fp', ∃ fl' : Blks, ∃ fs : Nat → Blks, (k l).run C st' Kk = some res ∧ SR e F w st' V fp' fl' ∧ (∀ b, fl b → fl' b) ∧ Disj fs ∧ (∀ i b, fs i b → fl' b ∧ ¬ fl b) ∧ l.length = rs.length ∧
   ∀ (i : Nat) t m x, l[i]? = some (.v t m x) → ∃ u, (rs.map fun r => a.tmps.getD r undef)[i]? = some u ∧ (m ≠ .j → isV t u) ∧ rep F w t m x (cv u) (fs i)
 | [], k, st, fp, fl, hS, h => ⟨[], st, fp, fl, fun _ => none', h, hS, fun _ hb => hb, ⟨fun _ _ _ _ hb => hb.elim⟩, fun _ _ hb => hb.elim, rfl, fun i t m x hi => by simp at hi⟩
 | r :: rs, k, st, fp, fl, hS, h => by
  simp only [zBsa] at h
  obtain ⟨t, m, y, src, h1, hd, _⟩ := zWca hS hA h
  obtain ⟨st1, fp1, fq, h2, hS1, hv1, hm1, hrep1, hfl, _⟩ := zjga hS hd h1
  obtain ⟨l, st', fp', fl', fs, k1, k2, k3, k4, k5, k6, k7⟩ := zopa hA hS1 h2
  refine ⟨_, st', fp', fl', fun i => match i with | 0 => fq | i + 1 => fs i, k1, k2, fun b hb => k3 b (.inl hb), ⟨fun i j hij b hb hb' => ?_⟩, fun i b hb => ?_, by simp [k6], fun i t' m' x' hi => ?_⟩
  ·cases i <;> cases j
   ·exact hij rfl
   ·exact (k5 _ b hb').2 (.inr hb)
   ·exact (k5 _ b hb).2 (.inr hb')
   ·exact k4.disj _ _ (by omega) b hb hb'
  ·cases i
   ·exact ⟨k3 b (.inr hb), hfl b hb⟩
   ·exact ⟨(k5 _ b hb).1, fun hc => (k5 _ b hb).2 (.inl hc)⟩
  ·cases i with
   | zero =>
    simp only [List.getElem?_cons_zero, Option.some.injEq] at hi
    cases hi
    exact ⟨_, rfl, fun _ => hv1, hrep1⟩
   | succ i =>
    simp only [List.getElem?_cons_succ] at hi
    obtain ⟨u, q1, q2⟩ := k7 i t' m' x' hi
    exact ⟨u, by simpa using q1, q2⟩
theorem zDsa {α : Type} {Kk : α → St → Option R} (hA : AR env gh a V) {r : Nat} {k : SV → RM α} {st : St} {fp : Nat → Blks} (hS : SR e F w st V fp none') (h : (ztva env r k).run C st Kk = some res) :
  ∃ sv st' fp', ∃ fo : Blks, (k sv).run C st' Kk = some res ∧ SR e F w st' V fp' fo ∧ svR F w st' V fo (a.tmps.getD r undef) sv := by
 unfold ztva at h
 split at h
 ·simp [RM.run] at h
 ·rename_i hr
  have hr := zala hr
  have hev : a.tmps.getD r undef = V (env.b + r) := hA.tmps r hr
  rw [hev]
  simp only [RM.run] at h
  have hsv := hS.sv (env.b + r)
  have htk : ∀ {t m y src}, DataAt F w st V (V (env.b + r)) t m y src → (take src (k (.v t m y))).run C st Kk = some res → ∃ sv st' fp', ∃ fo : Blks, (k sv).run C st' Kk = some res ∧ SR e F w st' V fp' fo ∧ svR F w st' V fo (V (env.b + r)) sv := by
   intro t m y src hd h1
   obtain ⟨st1, fp1, fq, h2, hS1, hv1, hm1, hrep1, hfl, _⟩ := zjga hS hd h1
   exact ⟨_, st1, fp1, fq, h2, hS1.less (fun b hb => .inr hb), fun _ => hv1, hrep1⟩
  have hdx : ∀ {t m y}, st (env.b + r) = .v t m y → m ≠ .j → DataAt F w st V (V (env.b + r)) t m y (some (env.b + r, [])) := by
   intro t m y hst hm
   rw [hst] at hsv
   exact ⟨hm, _, _, _, hst, y, by simp only [getP], by simp [ownP], by simp [inP], cv (V (env.b + r)), none, by simp [rs], by
      have h1 : V (env.b + r) = valOf t (cv (V (env.b + r))) := hsv.1 hm
      have h2 := PartOf.all (c' := cv (V (env.b + r))) t y
      rwa [← h1] at h2⟩
  have hoth : ∀ {sv : SV}, (match sv.cut env.b with | .un => (RM.fail : RM α) | _ => k sv).run C st Kk = some res → svR F w st V none' (V (env.b + r)) sv → ∃ sv st' fp', ∃ fo : Blks, (k sv).run C st' Kk = some res ∧ SR e F w st' V fp' fo ∧ svR F w st' V fo (V (env.b + r)) sv := by
   intro sv h hsv
   split at h
   ·simp [RM.run] at h
   ·exact ⟨_, st, fp, none', h, hS, hsv⟩
  cases hst : st (env.b + r) with
  | v t m y =>
   rw [hst] at h
   cases m with
   | s =>
    rw [hst] at hsv
    exact ⟨_, st, fp, none', h, hS, ⟨hsv.1, rep_s hsv.2⟩⟩
   | j => simp [RM.run] at h
   | o m => exact htk (hdx hst nofun) h
   | p m m' => exact htk (hdx hst nofun) h
  | tup l => rw [hst] at h; simp [RM.run] at h
  | un => rw [hst] at h; simp [RM.run] at h
  | bx q p => rw [hst] at h; simp [RM.run] at h
  | lz q p =>
   rw [hst] at h
   dsimp only at h
   split at h
   ·obtain ⟨t, m, y, src, h1, hd, _⟩ := zWca hS hA h
    have hev2 : a.eval (.tmp r) = V (env.b + r) := hev
    rw [hev2] at hd
    exact htk hd h1
   ·rw [hst] at hsv
    exact ⟨_, st, fp, none', h, hS, hsv⟩
  | al q p => rw [hst] at h hsv; exact hoth (sv := .al q p) h hsv
  | sub q p lo hi => rw [hst] at h hsv; exact hoth (sv := .sub q p lo hi) h hsv
  | fn f s c => rw [hst] at h hsv; exact hoth (sv := .fn f s c) h hsv
  | ifc T t x => rw [hst] at h hsv; exact hoth (sv := .ifc T t x) h hsv
  | nil => rw [hst] at h hsv; exact hoth (sv := .nil) h hsv
theorem zCsa {α : Type} {Kk : α → St → Option R} (hA : AR env gh a V) {rs : List Nat} {k : SV → RM α} {st : St} {fp : Nat → Blks} (hS : SR e F w st V fp none') (h : (zVta env rs k).run C st Kk = some res) :
  ∃ sv st' fp', ∃ fo : Blks, (k sv).run C st' Kk = some res ∧ SR e F w st' V fp' fo ∧ svR F w st' V fo (zAsa (rs.map fun r => a.tmps.getD r undef)) sv := by
 have hgen : ∀ {rs : List Nat}, (∀ r, rs ≠ [r]) → (zBsa env rs fun l => k (.tup l)).run C st Kk = some res → ∃ sv st' fp', ∃ fo : Blks, (k sv).run C st' Kk = some res ∧ SR e F w st' V fp' fo ∧ svR F w st' V fo (zAsa (rs.map fun r => a.tmps.getD r undef)) sv := by
  intro rs hrs h
  obtain ⟨l, st', fp', fl', fs, k1, k2, k3, k4, k5, k6, k7⟩ := zopa hA hS h
  refine ⟨_, st', fp', fl', k1, k2, rs.map (fun r => a.tmps.getD r undef), ?_, by simp [k6], fs, k4, fun i b hb => (k5 i b hb).1, k7⟩
  rcases rs with _ | ⟨r, _ | ⟨r', rs⟩⟩
  ·rfl
  ·exact absurd rfl (hrs r)
  ·rfl
 unfold zVta at h
 split at h
 ·exact zDsa hA hS h
 ·rename_i hn
  exact hgen (fun r hr => hn r hr) h
theorem zzya {inl : Inl} {f : FuncId} {fn : Func} {code : Code} {rs : List (Nat × Option TypeId)} {lp : Loops} (hm : P.follows .mixedOrders = true) (hE : EnvTy P env) (hF : EnvFn P env) (hI : InlOk P env.top inl) (hf : P.funcs[f]? = some fn) (hname : (fn.name == "runtime.NumGoroutine") = false) (hb : fn.body = some code) (hr : fn.results = (rs.map toRV).toArray)
  (hn : env.n = fn.ntmps) (hlen : (Nat.blt env.top gh0 && !env.df) = true) (hL : zZaa env lp inl code) (hrd : rvOk rs = true) :
  InlF P env.b f (fun R st xs K Kp => match Nat.ble xs.length env.n with | true => evC env lp inl code (st.enter env.b xs) (inlK env rs K Kp) | false => none) := by
 intro R st xs K Kp res h
 dsimp only at h
 split at h
 case h_2 => cases h
 rename_i hxs
 have hxs := Nat.le_of_ble_eq_true hxs
 refine ⟨⟨fn, code, hf, hname, hb⟩, ?_⟩
 intro e F w V fp vals Rp hgl hS hvl hsv hret hpan
 have hnd := zHua hrd
 simp only [Bool.and_eq_true, Bool.not_eq_true'] at hlen
 have hlim := zala hlen.1
 unfold Env.top at hlim
 have hdf := hlen.2
 refine calls_of_wp hf hb ?_
 let tm : Array Value := vals.toArray ++ Array.replicate (fn.ntmps - vals.toArray.size) undef
 let V0 : Nat → Value := fun i => if hi env.b i = true then tm.getD (i - env.b) undef else V i
 let fp0 : Nat → Blks := fun i b => hi env.b i = false ∧ fp i b
 have htm : ∀ i v, vals[i]? = some v → tm.getD i undef = v := by
  intro i v hv
  have hi : i < vals.length := (List.getElem?_eq_some_iff.1 hv).1
  simp only [tm, Array.getD_eq_getD_getElem?]
  rw [Array.getElem?_append_left (by simpa using hi)]
  simp [hv]
 have hVlo : ∀ r, hi env.b r = false → V0 r = V r := fun r hr => by show (if _ then _ else _) = _; rw [hr]; rfl
 have hstlo : ∀ r {t m x}, hi env.b r = false → (st.enter env.b xs) r = .v t m x → st r = .v t m x := by
  intro r t m x hr h1
  unfold St.enter at h1
  rw [hr] at h1
  rcases zyra env.b (st r) with hc | hc
  ·simp only [hc] at h1; exact h1
  ·simp only [hc] at h1; cases h1
 have hA0 : AR env V0 { tmps := tm, defers := [] } V0 := by
  refine ⟨by simp only [tm, Array.size_append, List.size_toArray, Array.size_replicate]; omega, fun i hi' => ?_, by rw [hdf], by omega, fun i _ => rfl⟩
  show tm.getD i undef = if _ then _ else _
  rw [if_pos (zYva.2 ⟨by omega, by omega⟩), show env.b + i - env.b = i by omega]
 have hS0 : SR e F w (st.enter env.b xs) V0 fp0 none' := by
  refine ⟨fun i => ?_, ⟨fun i j hij b hb hb' => hS.disj.disj i j hij b hb.2 hb'.2⟩, fun i b hb => hS.notF i b hb.2, fun i b hb => hS.inH i b hb.2, hS.inF, fun i b hb hc => hc, fun _ hb => hb.elim, fun _ hb => hb.elim, hS.g1, hS.g2, fun i b hb => hS.g3 i b hb.2, fun _ hb => hb.elim, hS.g5, hS.g6⟩
  cases hh : hi env.b i with
  | false =>
   have h1 : (st.enter env.b xs) i = (st i).cut env.b := by unfold St.enter; rw [hh]
   rw [h1, hVlo i hh]
   refine zSwa (fun b hb => ⟨hh, hb⟩) (zFua hVlo hstlo (hS.sv i))
  | true =>
   have h1 : (st.enter env.b xs) i = (xs.getD (i - env.b) .un).cut env.b := by unfold St.enter; rw [hh]
   have h2 : V0 i = tm.getD (i - env.b) undef := if_pos hh
   rw [h1, h2]
   by_cases hlt : i - env.b < xs.length
   ·have hx : xs[i - env.b]? = some xs[i - env.b] := List.getElem?_eq_getElem hlt
    have hv : vals[i - env.b]? = some vals[i - env.b] := List.getElem?_eq_getElem (by omega)
    rw [htm _ _ hv, List.getD_eq_getElem?_getD, hx]
    exact zSwa (fun b hb => hb.elim) (zFua hVlo hstlo (hsv _ _ _ hx hv))
   ·have : xs.getD (i - env.b) .un = .un := by simp [List.getD, Nat.le_of_not_lt hlt]
    rw [this]
    trivial
 have hkeep : ∀ {V1 : Nat → Value} {a1 : Act}, AR env V0 a1 V1 → ∀ i, i < env.b ∨ gh0 ≤ i → V1 i = V i := fun hA i hi' => by
  rw [hA.keep i hi', hVlo i (zita.2 hi')]
 have hdef : ∀ {V1 : Nat → Value} {a1 : Act}, AR env V0 a1 V1 → a1.defers = [] := fun hA => by have := hA.defers; rwa [hdf] at this
 refine zwra hm hE hF hI (e := e) hgl hL (fun _ _ _ _ _ _ h => h) ⟨?_, ?_⟩ hS0 hA0 h
 case refine_2 =>
  intro p ch F1 w1 st1 V1 fp1 a1 hS1 hA1 hp h1
  exact ⟨hdef hA1, hpan _ _ _ _ _ p ch (hS1.weak (zBna st1 env.b)) (hkeep hA1) hp h1⟩
 intro x F1 w1 st1 V1 fp1 a1 hx hS1 hA1 h1
 have key : (zcqa env (zoda rs) (zVta env (zgla rs) fun sv => .ret sv)).run Cx.no st1 (fun sv st => K sv (st.leave env.b)) = some res → a1.defers = [] ∧ ∃ v, (results fn a1.tmps).run P w1 = .ok v w1 ∧ Rp (.returned v) w1 := by
  intro h1
  obtain ⟨st2, V2, fp2, a2, h2, hS2, hA2, u1, u2⟩ := zana hE hS1 hA1 h1
  obtain ⟨sv, st3, fp3, fo, h3, hS3, hsv3⟩ := zCsa hA2 hS2 h2
  simp only [RM.run] at h3
  refine ⟨hdef hA1, _, zroa (vals := a2.tmps) hr (fun r T hq => u1 (r, T) (zjra.2 hq)) (fun r hq => u2 r (fun q hqc hc => hnd r q hq hqc hc)), hret _ _ _ _ _ fo _ sv (hS3.weak (zBna st3 env.b)) (hkeep hA2) (zmva (zBna st3 env.b) hsv3) h3⟩
 cases x with
 | exit i => cases h1
 | pan p => cases hx
 | normal => exact key h1
 | ret => exact key h1
end
end Go.Trm
namespace Go.Trm
open Go.ChangeShapes Go.WideShapes Go.ChangeAt Go.RowKit
open Go.ChangeMaps (open_string shut_string)
def oldB (w : World) : Blks := fun b => b < w.heap.size
abbrev Yes : Bool → Option Unit := fun r => cond r (some ()) none
theorem zhua {P : Program} {f : FuncId} {ins : List PK} {fn : {R : Type} → DI ins → (DR [(.bool, .s)] → DB ins → Option R) → (PI none → DB ins → Option R) → Option R} (H : Holds P f ⟨ins, [(.bool, .s)], none, fn⟩) {w : World} {d : DI ins} {vs : List Value}
  (hg : GlOk P (oldB w) w) (ha : ArgsR (oldB w) w ins d vs (fun _ _ => False)) (hp : fn d (fun r _ => Yes r.1) (fun _ _ => none) = some ()) :
  Calls P f vs.toArray w fun e w' => e = .returned (.bool true) ∧ Below w.heap.size w w' := by
 refine (H.calls (oldB w) w d vs (fun _ _ => False) Unit (fun r _ => Yes r.1) (fun _ _ => none) () hg (fun _ hb => hb) ⟨fun _ _ _ _ hb => hb.elim⟩ (fun _ _ hb => hb.elim) ha hp).mono fun e w' hpost => ?_
 obtain ⟨rb, F', fo, fb, ⟨v, ro, rfl, p1, p5⟩ | ⟨_, _, _, hc, _⟩, p2, p3, p4, _⟩ := hpost
 case inr => cases hc
 refine ⟨?_, p3.still.os, p3.still.tape, p3.still.output, p3.size, fun k hk => p4 k hk (fun _ hc => hc)⟩
 have hr : ro.1 = true := by
  unfold Yes at p1
  cases h : ro.1 with
  | true => rfl
  | false => rw [h] at p1; cases p1
 have h5 : svR F' w' (fun _ => .un) (fun _ => undef) fo v (.v .bool .s ro.1) := p5
 rw [hr] at h5
 have h1 : cv v 0 = .bool true := h5.2
 have h2 : v = valOf .bool (cv v) := h5.1 (by intro hc; cases hc)
 rw [h2]
 show Ending.returned (cv v 0) = _
 rw [h1]
theorem zcva {F : Blks} {w : World} {fp : Blks} (a : ByteArray) (h : a.size ≤ maxLen) : isV .str (.string a) ∧ Md.s ≠ .j ∧ rep F w .str .s a.data.toList (cv (.string a)) fp :=
 ⟨rfl, (by intro h; cases h), by
  refine ⟨?_, ?_⟩
  ·show Value.string a = .string ⟨a.data.toList.toArray⟩
   rw [Array.toArray_toList]
  ·have h1 : a.data.toList.length = a.size := Array.length_toList
   have h2 : maxLen = 2 ^ 63 - 1 := by decide
   have h3 : a.data.toList.length ≤ 2 ^ 63 - 1 := by rw [h1, ← h2]; exact h
   exact h3⟩
theorem zvya {F : Blks} {w : World} {fp : Blks} (a : Bool) : isV .bool (.bool a) ∧ Md.s ≠ .j ∧ rep F w .bool .s a (cv (.bool a)) fp := ⟨rfl, (by intro h; cases h), rfl⟩
theorem zNwa {k : IntKind} {n : Int} (h : (Lit.int k n).wf = true) : k.has n := by
 simp only [Lit.wf, Bool.and_eq_true, decide_eq_true_eq] at h
 exact h
theorem zCya {F : Blks} {w : World} {fp : Blks} {k : IntKind} (a : Int) (h : (Lit.int k a).wf = true) : isV (.int k) (.int k a) ∧ Md.s ≠ .j ∧ rep F w (.int k) .s a (cv (.int k a)) fp := ⟨rfl, (by intro h; cases h), rfl, zNwa h⟩
theorem zAra {w : World} {a : Addr} {i : Nat} {v : Value} (hs : a.spot = none) (h : w.cell? (a.add i) = some v) : (∃ cs e fz, w.heap[a.block]? = some (.cells cs e fz) ∧ a.off + i < cs.size) ∧ rowW w a.block (a.off + i) 0 = v := by
 obtain ⟨b, o, sp⟩ := a
 simp only at hs
 subst hs
 rw [zJda] at h
 unfold World.cell? at h
 simp only at h ⊢
 split at h
 ·rename_i c e fz hh
  simp only [Option.isSome_none, Bool.false_eq_true, if_false] at h
  have h1 := (Array.getElem?_eq_some_iff.1 h).1
  refine ⟨⟨c, e, fz, hh, h1⟩, ?_⟩
  simp only [rowW, hh, rowOf, Nat.add_zero, Array.getD_eq_getD_getElem?, h, Option.getD_some]
 ·cases h
theorem zAta {H : Type} {enc : TypeId × Value → H} {P : Program} {w : World} {r : Reach} {base b0 : Nat} {sp : Nat → Bool} {held : Bool} {t e : TypeId} {k : IntKind} {v : Value} {d : DataW H} {ps : List MemPlace}
  (ht : P.underlying t = some (.slice e)) (he : P.underlying e = some (.int k)) (hc : P.cellsOf e = 1) (hval : Value.okWide P w r base t v) (h : DataW.Trod enc P w b0 sp held t v d ps) :
  ∃ x : List Int, (isV (.sl e (.int k)) v ∧ Md.s ≠ .j ∧ rep (oldB w) w (.sl e (.int k)) .s x (cv v) (fun _ => False)) ∧ x.length ≤ maxLen ∧ ∀ n ∈ x, k.has n := by
 obtain ⟨A, len, cap, rfl⟩ := okWide_slice ht hval
 have hm : maxLen = 2 ^ 63 - 1 := by decide
 obtain ⟨fuel, hf⟩ := h
 rcases open_ints ht he hc hf with ⟨hcs, _⟩ | ⟨a, l, c, zs, hcs, _, hl, hcm, hz, _, hcell, hwz⟩
 ·simp only [Value.cells, List.cons.injEq, Value.slice.injEq, and_true] at hcs
  obtain ⟨rfl, rfl, rfl⟩ := hcs
  exact ⟨[], ⟨rfl, (by intro h; cases h), none, 0, rfl, Nat.le_refl _, by omega, fun _ => rfl, nofun⟩, by simp, by simp⟩
 ·simp only [Value.cells, List.cons.injEq, Value.slice.injEq, and_true] at hcs
  obtain ⟨rfl, rfl, rfl⟩ := hcs
  have hspot : a.spot = none := by
   simp only [Value.okWide, ht, Cell.okWide, Cell.ok] at hval
   exact hval.2.2.2.1
  have hlz0 : (zs.take len).length = len := by
   rw [List.length_take]
   split at hz <;> omega
  have hg0 : ∀ i, i < len → zs.getD i 0 = (zs.take len).getD i 0 := fun i hi => by
   simp [List.getD, hi]
  have hw0 : ∀ n ∈ zs.take len, k.has n := fun n hn => zNwa (hwz n (List.mem_of_mem_take hn))
  obtain ⟨z, hze⟩ : ∃ z : List (Ty.int k).I, z = zs.take len := ⟨_, rfl⟩
  have hlz : z.length = len := by rw [hze]; exact hlz0
  have hgz : ∀ i, i < len → zs.getD i 0 = z.getD i (Ty.dflt (.int k)) := fun i hi => by rw [hze]; exact hg0 i hi
  have hw : ∀ n ∈ z, k.has n := by rw [hze]; exact hw0
  have hlt : ∀ i, i < len → i < zs.length := fun i hi => by split at hz <;> omega
  refine ⟨z, ⟨rfl, (by intro h; cases h), some a, cap, (by rw [hlz]; rfl), (by rw [hlz]; exact hl), by omega, nofun, fun a' ha' => ?_⟩, (by show z.length ≤ _; rw [hlz]; omega), hw⟩
  cases ha'
  refine ⟨fun _ => hspot, ?_, fun i hi => ?_⟩
  ·rw [hlz]
   by_cases h0 : len = 0
   ·left; rw [h0, Nat.zero_mul]
   ·right
    obtain ⟨⟨cs, e1, fz, k1, k2⟩, _⟩ := zAra hspot (hcell (len - 1) (hlt _ (by omega)))
    refine ⟨(Array.getElem?_eq_some_iff.1 k1).1, cs, e1, fz, k1, ?_, fun h => by cases h⟩
    simp only [Ty.size, Nat.mul_one]
    omega
  ·rw [hlz] at hi
   obtain ⟨_, k3⟩ := zAra hspot (hcell i (hlt i hi))
   refine ⟨?_, ?_⟩
   ·show rowW w a.block (a.off + i * Ty.size (.int k)) 0 = _
    simp only [Ty.size, Nat.mul_one]
    rw [k3, hgz i hi]
   ·refine hw _ ?_
    rw [List.getD_eq_getElem?_getD, List.getElem?_eq_getElem (by omega)]
    exact List.getElem_mem _
theorem zgta {H : Type} {enc : TypeId × Value → H} {P : Program} {w : World} {b0 : Nat} {sp : Nat → Bool} {held : Bool} {t e : TypeId} {k : IntKind} {v : Value} {d : DataW H} {ps : List MemPlace} {ts : List TypeId} {ds : List (DataW H)} {j : Nat} {F : Blks} {m : Md} {fp : Blks} {x : List Int}
  (hsz : (DataW.weightsEach P ts ds).all (· ≤ reachBytes) = true) (ht : ts[j]? = some t) (hd : ds[j]? = some d) (hu : P.underlying t = some (.slice e)) (he : P.underlying e = some (.int k)) (hc : P.cellsOf e = 1) {B : Nat} (hB : P.bytesOf e = B)
  (h : DataW.Trod enc P w b0 sp held t v d ps) (hr : isV (.sl e (.int k)) v ∧ m ≠ .j ∧ rep F w (.sl e (.int k)) m x (cv v) fp) : x.length * B ≤ 140737488351232 := by
 obtain ⟨A, cap, rfl, _, _⟩ := zNra hr.1 hr.2.1 hr.2.2
 show List.length (α := (Ty.int k).I) x * B ≤ _
 generalize List.length (α := (Ty.int k).I) x = n at *
 obtain ⟨fuel, hf⟩ := h
 rcases open_ints hu he hc hf with ⟨hcs, _⟩ | ⟨a, l, c, zs, hcs, _, hl, hcm, hz, hx, _, _⟩
 ·simp only [Value.cells, List.cons.injEq, Value.slice.injEq, and_true] at hcs
  obtain ⟨_, rfl, _⟩ := hcs
  simp
 ·simp only [Value.cells, List.cons.injEq, Value.slice.injEq, and_true] at hcs
  obtain ⟨_, rfl, rfl⟩ := hcs
  obtain ⟨hx, _⟩ := Prod.mk.inj hx
  subst hx
  have z := sized_slice hsz ht hd hu
  rw [hB] at z
  have h2 : n ≤ (lits (H := H) k (zs.take n)).length + (lits (H := H) k (zs.drop n)).length := by
   simp only [lits, List.length_map, List.length_take, List.length_drop]
   split at hz <;> omega
  exact Nat.le_trans (Nat.mul_le_mul_right _ h2) z
theorem zAwa {H : Type} {enc : TypeId × Value → H} {P : Program} {w : World} {r : Reach} {base b0 : Nat} {sp : Nat → Bool} {held : Bool} {t ts tb e : TypeId} {k : IntKind} {v : Value} {d : DataW H} {ps : List MemPlace} {f0 f1 : Field}
  (ht : P.underlying t = some (.struct #[f0, f1])) (h0 : f0.type = ts ∧ f0.offset = 0) (h1 : f1.type = tb ∧ f1.offset = 1) (hs : P.underlying ts = some .string) (hb : P.underlying tb = some (.slice e)) (he : P.underlying e = some (.int k)) (hc : P.cellsOf e = 1)
  (hcs : P.cellsOf ts = 1) (hcb : P.cellsOf tb = 1) (hct : P.cellsOf t = 2) (hcells : P.cellTypes P.depth t = some [ts, tb]) (hval : Value.okWide P w r base t v) (h : DataW.Trod enc P w b0 sp held t v d ps) :
  ∃ (s : List UInt8) (x : List Int), (isV (.pair .str (.pair (.sl e (.int k)) .unit)) v ∧ Md.s ≠ .j ∧ rep (oldB w) w (.pair .str (.pair (.sl e (.int k)) .unit)) .s (s, (x, ())) (cv v) (fun _ => False)) ∧ s.length ≤ maxLen ∧ x.length ≤ maxLen ∧ ∀ n ∈ x, k.has n := by
 have hval' := hval
 simp only [Value.okWide, ht] at hval'
 obtain ⟨cs, rfl, hsz, tys, htys, _, hcell⟩ := hval'
 rw [hcells] at htys
 cases htys
 rw [hct] at hsz
 obtain ⟨l⟩ := cs
 obtain ⟨v0, v1, rfl⟩ : ∃ v0 v1, l = [v0, v1] := by
  match l, hsz with
  | [a, b], _ => exact ⟨a, b, rfl⟩
 obtain ⟨fuel, hf⟩ := h
 obtain ⟨xs, n, rfl, _, _, hxl, hx⟩ := DataW.trod_struct ht hf
 have hxl' : xs.length = 2 := hxl
 have e0 := hx 0 f0 rfl
 have e1 := hx 1 f1 rfl
 rw [h0.1, h0.2, hcs] at e0
 rw [h1.1, h1.2, hcb] at e1
 rw [List.getElem?_eq_getElem (by omega)] at e0 e1
 have e0' : DataW.trod enc P w b0 sp held n ts [v0] = some xs[0] := e0
 have e1' : DataW.trod enc P w b0 sp held n tb [v1] = some xs[1] := e1
 obtain ⟨s, hs0, _, hsl⟩ := DataW.trod_string hs e0'
 cases hs0
 obtain ⟨u, hu1, hu2⟩ := hcell 1 v1 rfl
 cases hu1
 have hok1 : Value.okWide P w r base tb v1 := by
  simp only [Value.okWide, hb]
  exact hu2
 obtain ⟨A, len, cap, rfl⟩ := okWide_slice hb hok1
 obtain ⟨x, ⟨_, _, hr⟩, hxm, hxk⟩ := zAta (d := xs[1].1) (ps := xs[1].2) hb he hc hok1 ⟨n, e1'⟩
 obtain ⟨_, _, hrs⟩ := zcva (F := oldB w) (w := w) (fp := fun _ => False) s hsl
 refine ⟨s.data.toList, x, ⟨rfl, (by intro h; cases h), fun _ => False, fun _ => False, fun _ hb => hb.elim, fun _ hb => hb.elim, fun _ hb => hb.elim, zjaa (fun j hj => ?_) hrs, fun _ => False, fun _ => False, fun _ hb => hb.elim, fun _ hb => hb.elim, fun _ hb => hb.elim, zjaa (fun j hj => ?_) hr, trivial⟩, ?_, hxm, hxk⟩
 ·have hj' : j < 1 := hj
  obtain rfl : j = 0 := by omega
  rfl
 ·have hj' : j < 1 := hj
  obtain rfl : j = 0 := by omega
  rfl
 ·have : s.data.toList.length = s.size := Array.length_toList
  omega
theorem ztwa {F : Blks} {w : World} {fps : Nat → Blks} : ArgsR F w [] () [] fps := rfl
theorem zCra {F : Blks} {w : World} {t : Ty} {m : Md} {ks : List PK} {x : t.I} {d : DI ks} {v : Value} {vs : List Value} (h : isV t v ∧ m ≠ .j ∧ rep F w t m x (cv v) (fun _ => False)) (h' : ArgsR F w ks d vs (fun _ _ => False)) :
  ArgsR F w (.val t m :: ks) (x, d) (v :: vs) (fun _ _ => False) := ⟨v, vs, rfl, h.1, h.2.1, h.2.2, h'⟩
end Go.Trm
namespace Go.Trm
open Go
section
variable {H : Type} {enc : TypeId × Value → H}
theorem zRea {a : Assume} {C : Checked} {os : Os} {f : FuncId} {fn : Func} {s : ChangeSpec} {conds : List PathCond} {apart fresh handsOn again : Bool} {X : World → Array Value → Prop}
  (hX : ∀ (w w' : World) (args : Array Value), w.heap = w'.heap → X w args → X w' args)
  (own : ownKnob C.prog.godebug = none) (started : os.Started) (noInit : C.prog.inits.idxOf? f = none) (hfn : C.prog.funcs[f]? = some fn)
  (witness : ∃ (w : World) (tape : Tape) (i : Input), w.os = os ∧ (w.forCall tape i).Shaped C.prog ∧ i.vars = [] ∧ Input.okWide C.prog (w.forCall tape i) .any w.heap.size f i ∧
   ((s.pre enc C.prog fn conds apart (w.forCall tape i).memory i.args ∧ X (w.forCall tape i).memory i.args) ∧ sizedMet enc C.prog fn (OpenSpec.ofChange s) apart (w.forCall tape i).memory i.args) ∧ a.holds C.prog (lone (Frame.enter C.prog f i.args .normal) [] (w.forCall tape i)))
  (contract : ∀ (W : World) (base : Nat) (args : Array Value) (ds gs : List (DataW H)) (before : List MemPlace),
   (∀ (j : Nat) t v, fn.params[j]? = some t → args[j]? = some v → Value.okWide C.prog W .any base t v) →
   DataW.Whole enc C.prog fn.params.toList s.vars apart W args.toList ds gs before →
   conds.all (PathCond.test C.prog ⟨fn.params.toList, ds, s.plain.varTypes C.prog, gs⟩) = true →
   (DataW.weightsEach C.prog (fn.params.toList ++ s.plain.varTypes C.prog) (ds ++ gs)).all (· ≤ reachBytes) = true → X W args →
   W.ShapedOpen C.prog →
   Calls C.prog f args W fun e W' => ∃ v, e = .returned v ∧ s.post enc C.prog fn apart fresh handsOn again W args v W') :
  ReturnsInHanded a C os f .any (fun w args => (s.pre enc C.prog fn conds apart w args ∧ X w args) ∧ sizedMet enc C.prog fn (OpenSpec.ofChange s) apart w args) (s.post enc C.prog fn apart fresh handsOn again) := by
 refine returnsInHanded_of_calls own started noInit witness ?_
 intro w tape i _ hsh _ hok hpre hholds
 obtain ⟨_, _, _, fn', hfn', _, _, _, _, hval⟩ := hok
 have e : fn' = fn := Option.some.inj (hfn'.symm.trans hfn)
 subst e
 obtain ⟨⟨⟨ds, gs, before, hw, hc⟩, hx⟩, hz⟩ := hpre
 have hw' := DataW.Whole.of_heap (w' := w.forCall tape i) (by rfl) hw
 refine (contract (w.forCall tape i) w.heap.size i.args ds gs before hval hw' hc (hz.weights hw) (hX _ _ _ (by rfl) hx) hsh).mono fun e W' ⟨v, he, hp⟩ => ?_
 subst he
 exact ChangeSpec.post_blind hp
end
theorem zZsa {P : Program} {w : World} : ∀ {l : List (String × DataW Unit)} {ps : List MemPlace}, DataW.LaidVars P w l ps → ∀ {n : String} {d : DataW Unit}, (n, d) ∈ l →
  ∃ g t cs fuel p, P.globalNamed n = some g ∧ (P.globals[g]?).map (·.type) = some t ∧ w.var? P n = some cs ∧ DataW.trod (fun _ => ()) P w 0 (fun _ => true) false fuel t cs.toList = some (d, p)
 | [], _, _, _, _, hm => by cases hm
 | (m, e) :: r, ps, h, n, d, hm => by
  obtain ⟨g, t, cs, fuel, p, q, h1, h2, h3, h4, h5, _⟩ := h
  rcases List.mem_cons.1 hm with hm | hm
  ·cases hm
   exact ⟨g, t, cs, fuel, p, h1, h2, h3, h4⟩
  ·exact zZsa h5 hm
theorem zBpa {P : Program} {w : World} {l : List (String × DataW Unit)} (h : laidMet P l w) {n : String} {d : DataW Unit} (hm : (n, d) ∈ l) {g : Nat} {t : TypeId} {ms : Array (String × TypeId)}
  (hg : P.globalNamed n = some g) (ht : (P.globals[g]?).map (·.type) = some t) (hu : P.underlying t = some (.interface ms)) :
  ∃ v, w.cell? ⟨g, 0, none⟩ = some v ∧ (v = .nilIface ∨ ∃ te pe, v = .iface te pe) := by
 obtain ⟨ps, h, _⟩ := h
 obtain ⟨g', t', cs, fuel, p, h1, h2, h3, h4⟩ := zZsa h hm
 obtain rfl := Option.some.inj (hg.symm.trans h1)
 obtain rfl := Option.some.inj (ht.symm.trans h2)
 have hc := World.var?_cell hg h3 0
 obtain ⟨cs⟩ := cs
 cases fuel with
 | zero => simp [DataW.trod] at h4
 | succ m =>
  unfold DataW.trod at h4
  rw [hu] at h4
  match cs, h4, hc with
  | [.nilIface], _, hc => exact ⟨_, by simpa using hc, .inl rfl⟩
  | [.iface u v], _, hc => exact ⟨_, by simpa using hc, .inr ⟨u, v, rfl⟩⟩
theorem zRxa {P : Program} {w : World} {l : List (String × DataW Unit)} (h : laidMet P l w) {n : String} {k : IntKind} {zs : List Int} (hm : (n, .agg (zs.map fun z => .lit (.int k z))) ∈ l) {g : Nat} {t e : TypeId} {m : Nat}
  (hg : P.globalNamed n = some g) (ht : (P.globals[g]?).map (·.type) = some t) (hu : P.underlying t = some (.array m e)) (he : P.underlying e = some (.int k)) (hc1 : P.cellsOf e = 1) (hl : zs.length = m) (r : Nat) (hr : r < m) :
  w.cell? ⟨g, r, none⟩ = some (.int k (zs.getD r 0)) := by
 obtain ⟨ps, h, _⟩ := h
 obtain ⟨g', t', cs, fuel, p, h1, h2, h3, h4⟩ := zZsa h hm
 obtain rfl := Option.some.inj (hg.symm.trans h1)
 obtain rfl := Option.some.inj (ht.symm.trans h2)
 obtain ⟨xs, m', _, ex, _, hlx, hel⟩ := DataW.trod_array hu h4
 have hE := hel r hr
 rw [hc1, Nat.mul_one, List.getElem?_eq_getElem (by omega)] at hE
 obtain ⟨z, e1, e2, _⟩ := DataW.trod_int he hE
 have e3 : (xs.map (·.1)) = zs.map fun z => (DataW.lit (.int k z) : DataW Unit) := (DataW.agg.inj (Prod.mk.inj ex).1).symm
 have e4 : (xs.map (·.1))[r]? = (zs.map fun z => (DataW.lit (.int k z) : DataW Unit))[r]? := by rw [e3]
 rw [List.getElem?_map, List.getElem?_map, List.getElem?_eq_getElem (by omega : r < xs.length), List.getElem?_eq_getElem (by omega : r < zs.length), e2] at e4
 have hz : z = zs.getD r 0 := by
  simp only [Option.map_some, Option.some.injEq, DataW.lit.injEq, Lit.int.injEq, true_and] at e4
  rw [e4, List.getD, List.getElem?_eq_getElem (by omega : r < zs.length)]; rfl
 rw [World.var?_cell hg h3 r, ← hz]
 have : cs.toList[r]? = some (.int k z) := by
  have h0 : ((cs.toList.drop r).take 1)[0]? = some (.int k z) := by rw [e1]; rfl
  simpa using h0
 simpa using this
end Go.Trm
namespace Go.Trm
open Go Go.Proofs
theorem zyta {w : World} {b k : Nat} {v : Value} (h : w.cell? ⟨b, k, none⟩ = some v) : b < w.heap.size := by
 unfold World.cell? at h
 cases hb : w.heap[b]? with
 | none => simp [hb] at h
 | some o => exact (Array.getElem?_eq_some_iff.1 hb).1
theorem zFxa {W : World} {laid : List (String × DataW Unit)} (h : laidMet Tryd.prog laid W) (m1 : ("strconv.ErrSyntax", Go.Proofs.YtaaichbahlpjlaaDoor.Rows.laid_strconv_ErrSyntax) ∈ laid) (m2 : ("strconv.ErrRange", Go.Proofs.YtaaichbahlpjlaaDoor.Rows.laid_strconv_ErrRange) ∈ laid) (hs : W.ShapedOpen Tryd.prog) : GlOk Tryd.prog (oldB W) W := by
 intro nm g q h1 h2
 unfold glReq at h2
 split at h2
 ·rename_i e
  subst e
  obtain rfl : g = 2 := Option.some.inj (h1.symm.trans (show Tryd.prog.globalNamed "internal/bytealg.MaxLen" = some 2 by kernel_rfl))
  simp only [List.mem_singleton] at h2
  subst h2
  obtain ⟨m, hm⟩ := cell_of_shapedOpen_int (g := 2) (t := 3) (zero := #[.int .i64 0]) (k := .i64) hs (of_decide_eq_true (by kernel_rfl)) (by kernel_rfl) rfl (by kernel_rfl) (by kernel_rfl) Tryd.underlying3
  exact ⟨zyta hm, _, hm, m, rfl⟩
 split at h2
 ·rename_i e
  simp only [List.mem_singleton] at h2
  subst h2
  rcases e with e | e <;> subst e
  ·obtain rfl : g = 6 := Option.some.inj (h1.symm.trans (show Tryd.prog.globalNamed "strconv.ErrSyntax" = some 6 by kernel_rfl))
   obtain ⟨v, h3, h4⟩ := zBpa h m1 (g := 6) (t := 61) (by kernel_rfl) (by kernel_rfl) Tryd.underlying61
   exact ⟨zyta h3, v, h3, h4⟩
  ·obtain rfl : g = 7 := Option.some.inj (h1.symm.trans (show Tryd.prog.globalNamed "strconv.ErrRange" = some 7 by kernel_rfl))
   obtain ⟨v, h3, h4⟩ := zBpa h m2 (g := 7) (t := 61) (by kernel_rfl) (by kernel_rfl) Tryd.underlying61
   exact ⟨zyta h3, v, h3, h4⟩
 ·cases h2
end Go.Trm
