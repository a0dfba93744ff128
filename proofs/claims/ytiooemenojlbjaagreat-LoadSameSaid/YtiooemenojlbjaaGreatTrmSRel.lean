import Derived.Test.YtiooemenojlbjaaGreatTrmKeepS
set_option linter.unusedVariables false
set_option linter.unusedSimpArgs false
namespace Go.Trm

def AlOk (w : World) (st : St) (V : Nat → Value) (r : Nat) (p : List PE) (v : Value) : Prop :=
  ∀ t m x, st r = .v t m x → rootB t p = true ∧ ownP t m p ∧ inP t x p ∧ ∃ u c' b o, rs w t (cv (V r)) none p = some (u, c', some (b, o)) ∧ v = .pointer (some ⟨b, o, none⟩)

def PlOk (Φ : Ty → Cells → Value → Prop) (w : World) (st : St) (V : Nat → Value) (r : Nat) (p : List PE) (v : Value) : Prop :=
  ∀ t m x, st r = .v t m x → ownP t m p ∧ inP t x p ∧ ∃ u c' ad, rs w t (cv (V r)) none p = some (u, c', ad) ∧ Φ u c' v
def LzP (u : Ty) (c : Cells) (v : Value) : Prop := v = valOf u c
/-- a slice of a slice -/
def cutVal (A : Option Addr) (cap lo hi sz : Nat) : Value := .slice (if cap = lo then A else A.map (·.add (lo * sz))) (hi - lo) (cap - lo)
def SubP (lo hi : Int) (u : Ty) (c : Cells) (v : Value) : Prop := ∃ e t A n cap, u = .sl e t ∧ c 0 = .slice A n cap ∧ 0 ≤ lo ∧ lo ≤ hi ∧ hi ≤ (n : Int) ∧ v = cutVal A cap lo.toNat hi.toNat t.size
def LzOk (w : World) (st : St) (V : Nat → Value) (r : Nat) (p : List PE) (v : Value) : Prop :=
  ∀ t m x, st r = .v t m x → ownP t m p ∧ inP t x p ∧ ∃ u c' ad, rs w t (cv (V r)) none p = some (u, c', ad) ∧ v = valOf u c'
def SubOk (lo hi : Int) (w : World) (st : St) (V : Nat → Value) (r : Nat) (p : List PE) (v : Value) : Prop := PlOk (SubP lo hi) w st V r p v

/-- a pointer to a cell that stays, with the pointer of a slot that is none of the program's -/
def BxOk (F : Blks) (w : World) (V : Nat → Value) (r : Nat) (v : Value) : Prop :=
  gh0 ≤ r ∧ ∃ b o, v = .pointer (some ⟨b, o, none⟩) ∧ F b ∧ holdsW w b (o + 1) true ∧ rowW w b o 0 = V r
/-- what is captured: a pointer to a place, or to such a cell -/
def CapOk (F : Blks) (w : World) (st : St) (V : Nat → Value) (r : Nat) (p : List PE) (v : Value) : Prop :=
  match p with
  | [] => BxOk F w V r v
  | e :: p => AlOk w st V r (e :: p) v
def CapsOk (F : Blks) (w : World) (st : St) (V : Nat → Value) (caps : List (Nat × List PE)) (vs : List Value) : Prop :=
  vs.length = caps.length ∧ ∀ (k : Nat) q, caps[k]? = some q → ∃ u, vs[k]? = some u ∧ CapOk F w st V q.1 q.2 u
def FnOk (F : Blks) (w : World) (st : St) (V : Nat → Value) (f : FuncId) (fst caps : List (Nat × List PE)) (v : Value) : Prop :=
  ∃ us vs : List Value, v = .func (.func f) us.toArray vs.toArray ∧ CapsOk F w st V fst us ∧ CapsOk F w st V caps vs

def IfcOk (F : Blks) (w : World) (T : TypeId) (t : Ty) (x : t.I) (v : Value) : Prop :=
  ∃ u, v = .iface T u ∧ t.flat = true ∧ isV t u ∧ rep F w t .s x (cv u) (fun _ => False)

def TupOk (F : Blks) (w : World) (l : List SV) (v : Value) (fp : Blks) : Prop :=
  ∃ vs : List Value, v = .tuple vs.toArray ∧ vs.length = l.length ∧ ∃ fs : Nat → Blks, Disj fs ∧ (∀ k b, fs k b → fp b) ∧
    ∀ (k : Nat) t m x, l[k]? = some (.v t m x) → ∃ u, vs[k]? = some u ∧ (m ≠ .j → isV t u) ∧ rep F w t m x (cv u) (fs k)

/-- what a slot's value is; its own blocks -/
def svR (F : Blks) (w : World) (st : St) (V : Nat → Value) (fp : Blks) (v : Value) : SV → Prop
  | .v t m x => (m ≠ .j → isV t v) ∧ rep F w t m x (cv v) fp
  | .al r p => AlOk w st V r p v
  | .lz r p => LzOk w st V r p v
  | .sub r p lo hi => SubOk lo hi w st V r p v
  | .fn f fst caps => FnOk F w st V f fst caps v
  | .bx r _ => BxOk F w V r v
  | .ifc T t x => IfcOk F w T t x v
  | .tup l => TupOk F w l v fp
  | .nil => v = .slice none 0 0
  | .un => True

/-- how a call began: the memory, the blocks that it may write to, those that stay -/
structure Entry where
  w0 : World
  O : Blks
  F0 : Blks

/-- the slots, the memory, and what is known of them; 'fl': blocks that are on their way -/
structure SR (e : Entry) (F : Blks) (w : World) (st : St) (V : Nat → Value) (fp : Nat → Blks) (fl : Blks) : Prop where
  sv : ∀ i, svR F w st V (fp i) (V i) (st i)
  disj : Disj fp
  notF : ∀ i b, fp i b → ¬ F b
  inH : ∀ i b, fp i b → b < w.heap.size
  inF : ∀ b, F b → b < w.heap.size
  flD : ∀ i b, fp i b → ¬ fl b
  flF : ∀ b, fl b → ¬ F b
  flH : ∀ b, fl b → b < w.heap.size
  g1 : Grew e.w0 w
  g2 : ∀ b, b < e.w0.heap.size → ¬ e.O b → Same e.w0 w b
  g3 : ∀ i b, fp i b → e.O b ∨ e.w0.heap.size ≤ b
  g4 : ∀ b, fl b → e.O b ∨ e.w0.heap.size ≤ b
  g5 : ∀ b, e.F0 b → F b
  g6 : ∀ b, F b → e.F0 b ∨ e.O b ∨ e.w0.heap.size ≤ b

theorem valOf_congr {t : Ty} {c c' : Cells} (h : ∀ j, j < t.size → c j = c' j) : valOf t c = valOf t c' := by
  unfold valOf
  cases ha : t.agg with
  | false => simp only [Bool.false_eq_true, if_false]; exact h 0 (by rw [size_one ha]; omega)
  | true =>
    simp only [if_true]
    congr 2
    exact List.map_congr_left fun j hj => h j (List.mem_range.1 hj)

/-- memory may have changed at a place -/
def ChgW (w w' : World) (u : Ty) : Option (Nat × Nat) → Prop
  | some (b, o) => (∀ b', b' ≠ b → Same w w' b') ∧ (∀ j, (j < o ∨ o + u.size ≤ j) → rowW w' b 0 j = rowW w b 0 j) ∧ (∀ n wr, holdsW w b n wr → holdsW w' b n wr)
  | none => ∀ b, Same w w' b

theorem kill_v {st : St} {r : Nat} {p : List PE} {i : Nat} {t : Ty} {m : Md} {x : t.I} : st.kill r p i = .v t m x ↔ st i = .v t m x := by
  unfold St.kill
  cases h : st i with
  | v t' m' x' => simp
  | al r' q => simp only; cases (Nat.beq r r' && !stays p q) <;> simp
  | lz r' q => simp only; cases (Nat.beq r r' && !(q.isEmpty && !p.isEmpty)) <;> simp
  | sub r' q l h => simp only; cases (Nat.beq r r') <;> simp
  | fn f s c => simp only; cases ((s ++ c).any fun c => Nat.beq r c.1 && !stays p c.2) <;> simp
  | bx r' q => simp
  | ifc T t' x' => simp
  | tup l => simp
  | nil => simp
  | un => simp

theorem kill_v' {st : St} {r : Nat} {p : List PE} {i : Nat} {t : Ty} {m : Md} {x : t.I} (h : st i = .v t m x) : st.kill r p i = .v t m x := kill_v.2 h
theorem kill_al {st : St} {r : Nat} {p : List PE} {i r' : Nat} {q : List PE} (h : st i = .al r' q) : st.kill r p i = cond (Nat.beq r r' && !(stays p q)) .un (.al r' q) := by simp only [St.kill, h]
theorem kill_lz {st : St} {r : Nat} {p : List PE} {i r' : Nat} {q : List PE} (h : st i = .lz r' q) : st.kill r p i = cond (Nat.beq r r' && !(q.isEmpty && !p.isEmpty)) .un (.lz r' q) := by simp only [St.kill, h]
theorem kill_sub {st : St} {r : Nat} {p : List PE} {i r' : Nat} {q : List PE} {lo hi : Int} (h : st i = .sub r' q lo hi) : st.kill r p i = cond (Nat.beq r r') .un (.sub r' q lo hi) := by simp only [St.kill, h]
theorem kill_fn {st : St} {r : Nat} {p : List PE} {i : Nat} {f : FuncId} {s c : List (Nat × List PE)} (h : st i = .fn f s c) : st.kill r p i = cond ((s ++ c).any fun c => Nat.beq r c.1 && !(stays p c.2)) .un (.fn f s c) := by simp only [St.kill, h]
theorem kill_bx {st : St} {r : Nat} {p : List PE} {i r' : Nat} {q : List PE} (h : st i = .bx r' q) : st.kill r p i = .bx r' q := by simp only [St.kill, h]
theorem kill_ifc {st : St} {r : Nat} {p : List PE} {i : Nat} {T : TypeId} {t : Ty} {x : t.I} (h : st i = .ifc T t x) : st.kill r p i = .ifc T t x := by simp only [St.kill, h]

theorem BxOk.imp {F F' : Blks} {w w' : World} {V V' : Nat → Value} {r : Nat} {v : Value} (h : BxOk F w V r v) (hF : ∀ b, F b → F' b) (hw : ∀ b, F b → Same w w' b) (hV : gh0 ≤ r → V' r = V r) : BxOk F' w' V' r v := by
  obtain ⟨h0, b, o, e1, e2, e3, e4⟩ := h
  exact ⟨h0, b, o, e1, hF b e2, (holds_same (hw b e2)).2 e3, by rw [row_same (hw b e2), hV h0]; exact e4⟩
theorem CapsOk.imp {F F' : Blks} {w w' : World} {st st' : St} {V V' : Nat → Value} {caps : List (Nat × List PE)} {vs : List Value} (h : CapsOk F w st V caps vs) (hb : ∀ r u, BxOk F w V r u → BxOk F' w' V' r u) (hi : ∀ q u, q ∈ caps → AlOk w st V q.1 q.2 u → AlOk w' st' V' q.1 q.2 u) : CapsOk F' w' st' V' caps vs := by
  refine ⟨h.1, fun k q hq => ?_⟩
  obtain ⟨u, h1, h2⟩ := h.2 k q hq
  refine ⟨u, h1, ?_⟩
  have h3 := hi q u (List.mem_of_getElem? hq)
  obtain ⟨r, p⟩ := q
  cases p with
  | nil => exact hb r u h2
  | cons e p => exact h3 h2
theorem any_app {α : Type} {l m : List α} {f : α → Bool} (h : (l ++ m).any f = false) : (∀ q ∈ l, f q = false) ∧ ∀ q ∈ m, f q = false := by
  rw [List.any_append, Bool.or_eq_false_iff, List.any_eq_false, List.any_eq_false] at h
  exact ⟨fun q hq => Bool.eq_false_iff.2 (h.1 q hq), fun q hq => Bool.eq_false_iff.2 (h.2 q hq)⟩
theorem SubP.congr {lo hi : Int} {u : Ty} {c c' : Cells} {v : Value} (h : SubP lo hi u c v) (hc : ∀ j, j < u.size → c j = c' j) : SubP lo hi u c' v := by
  obtain ⟨e, t, A, n, cap, rfl, h1, h2⟩ := h
  exact ⟨e, t, A, n, cap, rfl, by rw [← hc 0 (by simp [Ty.size])]; exact h1, h2⟩
theorem kill_tup {st : St} {r : Nat} {p : List PE} {i : Nat} {l : List SV} (h : st i = .tup l) : st.kill r p i = .tup l := by simp only [St.kill, h]
theorem kill_nil {st : St} {r : Nat} {p : List PE} {i : Nat} (h : st i = .nil) : st.kill r p i = .nil := by simp only [St.kill, h]
theorem kill_un {st : St} {r : Nat} {p : List PE} {i : Nat} (h : st i = .un) : st.kill r p i = .un := by simp only [St.kill, h]

theorem put_same {st : St} {r : Nat} {v : SV} : st.put r v r = v := by simp [St.put, Nat.beq_refl]
theorem put_other {st : St} {r i : Nat} {v : SV} (h : i ≠ r) : st.put r v i = st i := by
  have : Nat.beq i r = false := by
    cases hb : Nat.beq i r with
    | false => rfl
    | true => exact absurd (Nat.eq_of_beq_eq_true hb) h
  simp [St.put, this]

section
variable {e : Entry} {F F' : Blks} {w w' : World} {st : St} {V : Nat → Value} {fp : Nat → Blks} {fl fl' fq fold : Blks} {r : Nat} {t : Ty} {m : Md} {x : t.I} {p : List PE} {u : Ty} {c' : Cells} {ad : Option (Nat × Nat)}
  {mu : Md} {y : u.I} {m' : Md} {x' : t.I}

/-- ONE PLACE IS FILLED ANEW (or gets another mode): all else stays -/
theorem SR.place (h : SR e F w st V fp fl) (hr : st r = .v t m x) (hm : m ≠ .j) (P : Put F w t m x (V r) (fp r) p u c' ad fold) (hi : inP t x p) (ho : ownP t m p) (hrs : rs w t (cv (V r)) none p = some (u, c', ad))
    (hset : setP t m x p u mu y = some (m', x')) (hF : ∀ b, F b → F' b) (hsz : w'.heap.size = w.heap.size) (hst : Still w w') (hat : ChgW w w' u ad) (hrep : rep F' w' u mu y (newRow w' c' ad) fq)
    (hq : ∀ b, fq b → fold b ∨ fl b) (hfl : ∀ b, fl' b → (fl b ∨ fold b) ∧ ¬ fq b) (hFF : ∀ b, F' b → F b ∨ ((fold b ∨ fl b) ∧ ¬ fq b ∧ ¬ fl' b)) :
    SR e F' w' ((st.kill r p).put r (.v t m' x')) V (fun i b => (i ≠ r ∧ fp i b) ∨ (i = r ∧ ((fp r b ∧ ¬ fold b) ∨ fq b))) fl' := by
  have hfqs : ∀ b, fq b → b < w.heap.size := fun b hb => by
    rcases hq b hb with hb | hb
    · exact h.inH r b (P.sub _ hb)
    · exact h.flH b hb
  have hF's : ∀ b, F' b → b < w.heap.size := fun b hb => by
    rcases hFF b hb with hb | ⟨hb | hb, _⟩
    · exact h.inF b hb
    · exact h.inH r b (P.sub _ hb)
    · exact h.flH b hb
  have hqd : ∀ b, fq b → ¬ (fp r b ∧ ¬ fold b) := fun b hb hc => by
    rcases hq b hb with hb | hb
    · exact hc.2 hb
    · exact h.flD r b hc.1 hb
  have hsame : ∀ b, (F b ∨ ∃ i, i ≠ r ∧ fp i b) → Same w w' b := by
    intro b hb
    cases ad with
    | none => exact hat b
    | some bo =>
      obtain ⟨b1, o⟩ := bo
      refine hat.1 b ?_
      rintro rfl
      have h1 := (P.lies _ _ rfl).1
      rcases hb with hb | ⟨i, hi, hb⟩
      · exact h.notF _ _ h1 hb
      · exact h.disj.disj _ _ hi _ hb h1
  have hchg : Chg F w w' (fp r) u ad := by
    cases ad with
    | none => exact fun b _ => hat b
    | some bo =>
      obtain ⟨b1, o⟩ := bo
      exact ⟨fun b' hb' _ => hat.1 b' hb', hat.2.1, hat.2.2, fun hc => h.notF _ _ (P.lies _ _ rfl).1 hc⟩
  have hnew : rep F' w' t m' x' (cv (V r)) (fun b' => (fp r b' ∧ ¬ fold b') ∨ fq b') :=
    P.new mu y m' x' F' w' fq hset hF hsz hchg hrep (fun b hb => ⟨hqd b hb, hfqs b hb⟩) hF's
  have hrsv := h.sv r
  rw [hr] at hrsv
  have st'r : ∀ r', r' ≠ r → ∀ {t1 m1 x1}, ((st.kill r p).put r (.v t m' x')) r' = .v t1 m1 x1 → st r' = .v t1 m1 x1 := by
    intro r' hr' t1 m1 x1 h1
    rw [put_other hr'] at h1
    exact kill_v.1 h1
  have hal : ∀ r' q v, (r' = r → stays p q = true) → AlOk w st V r' q v → AlOk w' ((st.kill r p).put r (.v t m' x')) V r' q v := by
    intro r' q v hs ha t1 m1 x1 h1
    by_cases hrr : r' = r
    · subst hrr
      rw [put_same] at h1
      cases h1
      obtain ⟨a1, a2, a3, u1, c1, b1, o1, a4, a5⟩ := ha t m x hr
      obtain ⟨k1, k2, c2, k3⟩ := keepS hrsv.2 hi ho hrs hset hchg (hs rfl) a1 a3 a2 a4
      exact ⟨a1, k2, k1, u1, c2, b1, o1, k3, a5⟩
    · have h2 := st'r r' hrr h1
      obtain ⟨a1, a2, a3, u1, c1, b1, o1, a4, a5⟩ := ha t1 m1 x1 h2
      have h3 := h.sv r'
      rw [h2] at h3
      obtain ⟨c3, k3, _⟩ := rs_same h3.2 a3 a2 (fun b hb => hsame b (.inr ⟨r', hrr, hb⟩)) (fun _ _ => rfl) a4
      exact ⟨a1, a2, a3, u1, c3, b1, o1, k3, a5⟩
  refine ⟨?_, ⟨?_⟩, ?_, ?_, ?_, ?_, ?_, ?_, ?_, ?_, ?_, ?_, ?_, ?_⟩
  · intro i
    by_cases hir : i = r
    · subst hir
      rw [put_same]
      exact ⟨fun _ => hrsv.1 hm, rep_fp (fun b hb => .inr ⟨rfl, hb⟩) hnew⟩
    · rw [put_other hir]
      have hfi : ∀ b, fp i b → (i ≠ r ∧ fp i b) ∨ (i = r ∧ ((fp r b ∧ ¬ fold b) ∨ fq b)) := fun b hb => .inl ⟨hir, hb⟩
      have h1 := h.sv i
      unfold St.kill
      cases hsi : st i with
      | v t1 m1 x1 =>
        rw [hsi] at h1
        exact ⟨h1.1, rep_fp hfi (rep_frame hF (fun b hb => hsame b (.inl hb)) (fun b hb => hsame b (.inr ⟨i, hir, hb⟩)) h1.2)⟩
      | al r' q =>
        rw [hsi] at h1
        simp only
        cases hk : (Nat.beq r r' && !stays p q) with
        | true => trivial
        | false =>
          refine hal r' q _ (fun hc => ?_) h1
          subst hc
          simpa [Nat.beq_refl] using hk
      | lz r' q =>
        rw [hsi] at h1
        simp only
        cases hk : (Nat.beq r r' && !(q.isEmpty && !p.isEmpty)) with
        | true => trivial
        | false =>
          intro t1 m1 x1 h2
          by_cases hrr : r' = r
          · subst hrr
            simp only [Nat.beq_refl, Bool.true_and, Bool.not_eq_false', Bool.and_eq_true] at hk
            obtain ⟨hk, _⟩ := hk
            have : q = [] := by simpa using hk
            subst this
            rw [put_same] at h2
            cases h2
            obtain ⟨_, _, u1, c1, ad1, a4, a5⟩ := h1 t m x hr
            refine ⟨by simp [ownP], by simp [inP], u1, c1, ad1, ?_, a5⟩
            simp only [rs] at a4 ⊢
            exact a4
          · have h2 := st'r r' hrr h2
            obtain ⟨a2, a3, u1, c1, ad1, a4, a5⟩ := h1 t1 m1 x1 h2
            have h3 := h.sv r'
            rw [h2] at h3
            obtain ⟨c3, k3, k4⟩ := rs_same h3.2 a3 a2 (fun b hb => hsame b (.inr ⟨r', hrr, hb⟩)) (fun _ _ => rfl) a4
            exact ⟨a2, a3, u1, c3, ad1, k3, by rw [a5]; exact valOf_congr k4⟩
      | sub r' q lo hi =>
        rw [hsi] at h1
        simp only
        cases hk : Nat.beq r r' with
        | true => trivial
        | false =>
          intro t1 m1 x1 h2
          have hrr : r' ≠ r := fun hc => by rw [hc, Nat.beq_refl] at hk; cases hk
          have h2 := st'r r' hrr h2
          obtain ⟨a2, a3, u1, c1, ad1, a4, a5⟩ := h1 t1 m1 x1 h2
          have h3 := h.sv r'
          rw [h2] at h3
          obtain ⟨c3, k3, k4⟩ := rs_same h3.2 a3 a2 (fun b hb => hsame b (.inr ⟨r', hrr, hb⟩)) (fun _ _ => rfl) a4
          exact ⟨a2, a3, u1, c3, ad1, k3, a5.congr k4⟩
      | fn f s caps =>
        rw [hsi] at h1
        simp only
        cases hk : ((s ++ caps).any fun c => Nat.beq r c.1 && !stays p c.2) with
        | true => trivial
        | false =>
          obtain ⟨k1, k2⟩ := any_app hk
          obtain ⟨us, vs, e1, e2, e3⟩ := h1
          have hbx : ∀ r u, BxOk F w V r u → BxOk F' w' V r u := fun r u hb => hb.imp hF (fun b hb => hsame b (.inl hb)) (fun _ => rfl)
          refine ⟨us, vs, e1, e2.imp hbx fun q u hq => hal _ _ _ fun hc => ?_, e3.imp hbx fun q u hq => hal _ _ _ fun hc => ?_⟩
          · have h9 := k1 q hq
            rw [hc, Nat.beq_refl] at h9
            simpa using h9
          · have h9 := k2 q hq
            rw [hc, Nat.beq_refl] at h9
            simpa using h9
      | bx r' q =>
        rw [hsi] at h1
        exact BxOk.imp h1 hF (fun b hb => hsame b (.inl hb)) (fun _ => rfl)
      | ifc T t1 x1 =>
        rw [hsi] at h1
        obtain ⟨u, e1, e2, e3, e4⟩ := h1
        exact ⟨u, e1, e2, e3, rep_frame hF (fun b hb => hsame b (.inl hb)) (fun _ hb => hb.elim) e4⟩
      | tup l =>
        rw [hsi] at h1
        obtain ⟨vs, e1, e2, fs, e3, e4, e5⟩ := h1
        refine ⟨vs, e1, e2, fs, e3, fun k b hb => hfi b (e4 k b hb), fun k t1 m1 x1 hk => ?_⟩
        obtain ⟨u1, k1, k2, k3⟩ := e5 k t1 m1 x1 hk
        exact ⟨u1, k1, k2, rep_frame hF (fun b hb => hsame b (.inl hb)) (fun b hb => hsame b (.inr ⟨i, hir, e4 k b hb⟩)) k3⟩
      | nil => rw [hsi] at h1; exact h1
      | un => trivial
  · intro i j hij b hb1 hb2
    rcases hb1 with ⟨h1, hb1⟩ | ⟨rfl, hb1⟩ <;> rcases hb2 with ⟨h2, hb2⟩ | ⟨rfl, hb2⟩
    · exact h.disj.disj _ _ hij _ hb1 hb2
    · rcases hb2 with hb2 | hb2
      · exact h.disj.disj _ _ hij _ hb1 hb2.1
      · rcases hq b hb2 with hb2 | hb2
        · exact h.disj.disj _ _ hij _ hb1 (P.sub _ hb2)
        · exact h.flD _ _ hb1 hb2
    · rcases hb1 with hb1 | hb1
      · exact h.disj.disj _ _ hij _ hb1.1 hb2
      · rcases hq b hb1 with hb1 | hb1
        · exact h.disj.disj _ _ hij _ (P.sub _ hb1) hb2
        · exact h.flD _ _ hb2 hb1
    · exact hij rfl
  · intro i b hb hc
    rcases hFF b hc with hc | ⟨hc, hc2, _⟩
    · rcases hb with ⟨_, hb⟩ | ⟨rfl, hb | hb⟩
      · exact h.notF _ _ hb hc
      · exact h.notF _ _ hb.1 hc
      · rcases hq b hb with hb | hb
        · exact h.notF _ _ (P.sub _ hb) hc
        · exact h.flF _ hb hc
    · rcases hb with ⟨hi, hb⟩ | ⟨rfl, hb | hb⟩
      · rcases hc with hc | hc
        · exact h.disj.disj _ _ hi _ hb (P.sub _ hc)
        · exact h.flD _ _ hb hc
      · rcases hc with hc | hc
        · exact hb.2 hc
        · exact h.flD _ _ hb.1 hc
      · exact hc2 hb
  · intro i b hb
    rw [hsz]
    rcases hb with ⟨_, hb⟩ | ⟨rfl, hb | hb⟩
    · exact h.inH _ _ hb
    · exact h.inH _ _ hb.1
    · exact hfqs _ hb
  · intro b hb; rw [hsz]; exact hF's b hb
  · intro i b hb hc
    obtain ⟨h1, h2⟩ := hfl b hc
    rcases hb with ⟨hi, hb⟩ | ⟨rfl, hb | hb⟩
    · rcases h1 with h1 | h1
      · exact h.flD _ _ hb h1
      · exact h.disj.disj _ _ hi _ hb (P.sub _ h1)
    · rcases h1 with h1 | h1
      · exact h.flD _ _ hb.1 h1
      · exact hb.2 h1
    · exact h2 hb
  · intro b hb hc
    obtain ⟨h1, h2⟩ := hfl b hb
    rcases hFF b hc with hc | ⟨_, _, hc⟩
    · rcases h1 with h1 | h1
      · exact h.flF _ h1 hc
      · exact h.notF _ _ (P.sub _ h1) hc
    · exact hc hb
  · intro b hb
    rw [hsz]
    rcases (hfl b hb).1 with h1 | h1
    · exact h.flH _ h1
    · exact h.inH _ _ (P.sub _ h1)
  · exact h.g1.trans ⟨hst, Nat.le_of_eq hsz.symm⟩
  · intro b hb hO
    refine same_trans (h.g2 b hb hO) ?_
    cases ad with
    | none => exact hat b
    | some bo =>
      obtain ⟨b1, o⟩ := bo
      refine hat.1 b ?_
      rintro rfl
      rcases h.g3 _ _ (P.lies _ _ rfl).1 with h1 | h1
      · exact hO h1
      · omega
  · intro i b hb
    rcases hb with ⟨_, hb⟩ | ⟨rfl, hb | hb⟩
    · exact h.g3 _ _ hb
    · exact h.g3 _ _ hb.1
    · rcases hq b hb with hb | hb
      · exact h.g3 _ _ (P.sub _ hb)
      · exact h.g4 _ hb
  · intro b hb
    rcases (hfl b hb).1 with h1 | h1
    · exact h.g4 _ h1
    · exact h.g3 _ _ (P.sub _ h1)
  · exact fun b hb => hF _ (h.g5 b hb)
  · intro b hb
    rcases hFF b hb with hb | ⟨hb | hb, _⟩
    · exact h.g6 b hb
    · exact .inr (h.g3 _ _ (P.sub _ hb))
    · exact .inr (h.g4 _ hb)

/-- memory has grown, or blocks on their way have changed -/
theorem SR.world (h : SR e F w st V fp fl) (hs : ∀ b, b < w.heap.size → ¬ fl b → Same w w' b) (hg : Grew w w') (hfl : ∀ b, fl' b → (fl b ∨ w.heap.size ≤ b) ∧ b < w'.heap.size) :
    SR e F w' st V fp fl' := by
  have hF : ∀ b, F b → Same w w' b := fun b hb => hs b (h.inF b hb) (fun hc => h.flF b hc hb)
  have hp : ∀ i b, fp i b → Same w w' b := fun i b hb => hs b (h.inH i b hb) (h.flD i b hb)
  have hal : ∀ r q v, AlOk w st V r q v → AlOk w' st V r q v := by
    intro r q v ha t1 m1 x1 h2
    obtain ⟨a1, a2, a3, u1, c1, b1, o1, a4, a5⟩ := ha t1 m1 x1 h2
    have h3 := h.sv r
    rw [h2] at h3
    obtain ⟨c3, k3, _⟩ := rs_same h3.2 a3 a2 (fun b hb => hp r b hb) (fun _ _ => rfl) a4
    exact ⟨a1, a2, a3, u1, c3, b1, o1, k3, a5⟩
  refine ⟨fun i => ?_, h.disj, h.notF, fun i b hb => Nat.lt_of_lt_of_le (h.inH i b hb) hg.size, fun b hb => Nat.lt_of_lt_of_le (h.inF b hb) hg.size, fun i b hb hc => ?_, fun b hb hc => ?_, fun b hb => (hfl b hb).2, h.g1.trans hg, fun b hb hO => ?_, h.g3, fun b hb => ?_, h.g5, h.g6⟩
  · have h1 := h.sv i
    cases hsi : st i with
    | v t1 m1 x1 => rw [hsi] at h1; exact ⟨h1.1, rep_frame (fun _ hb => hb) hF (hp i) h1.2⟩
    | al r' q => rw [hsi] at h1; exact hal _ _ _ h1
    | lz r' q =>
      rw [hsi] at h1
      intro t1 m1 x1 h2
      obtain ⟨a2, a3, u1, c1, ad1, a4, a5⟩ := h1 t1 m1 x1 h2
      have h3 := h.sv r'
      rw [h2] at h3
      obtain ⟨c3, k3, k4⟩ := rs_same h3.2 a3 a2 (fun b hb => hp r' b hb) (fun _ _ => rfl) a4
      exact ⟨a2, a3, u1, c3, ad1, k3, by rw [a5]; exact valOf_congr k4⟩
    | sub r' q lo hi =>
      rw [hsi] at h1
      intro t1 m1 x1 h2
      obtain ⟨a2, a3, u1, c1, ad1, a4, a5⟩ := h1 t1 m1 x1 h2
      have h3 := h.sv r'
      rw [h2] at h3
      obtain ⟨c3, k3, k4⟩ := rs_same h3.2 a3 a2 (fun b hb => hp r' b hb) (fun _ _ => rfl) a4
      exact ⟨a2, a3, u1, c3, ad1, k3, a5.congr k4⟩
    | fn f s caps =>
      rw [hsi] at h1
      obtain ⟨us, vs, e1, e2, e3⟩ := h1
      have hbx : ∀ r u, BxOk F w V r u → BxOk F w' V r u := fun r u hb => hb.imp (fun _ hb => hb) hF (fun _ => rfl)
      exact ⟨us, vs, e1, e2.imp hbx fun q u _ => hal _ _ _, e3.imp hbx fun q u _ => hal _ _ _⟩
    | bx r' q =>
      rw [hsi] at h1
      exact BxOk.imp h1 (fun _ hb => hb) hF (fun _ => rfl)
    | ifc T t1 x1 =>
      rw [hsi] at h1
      obtain ⟨u, e1, e2, e3, e4⟩ := h1
      exact ⟨u, e1, e2, e3, rep_frame (fun _ hb => hb) hF (fun _ hb => hb.elim) e4⟩
    | tup l =>
      rw [hsi] at h1
      obtain ⟨vs, e1, e2, fs, e3, e4, e5⟩ := h1
      refine ⟨vs, e1, e2, fs, e3, e4, fun k t1 m1 x1 hk => ?_⟩
      obtain ⟨u1, k1, k2, k3⟩ := e5 k t1 m1 x1 hk
      exact ⟨u1, k1, k2, rep_frame (fun _ hb => hb) hF (fun b hb => hp i b (e4 k b hb)) k3⟩
    | nil => rw [hsi] at h1; exact h1
    | un => trivial
  · rcases (hfl b hc).1 with h1 | h1
    · exact h.flD i b hb h1
    · have := h.inH i b hb; omega
  · rcases (hfl b hb).1 with h1 | h1
    · exact h.flF b h1 hc
    · have := h.inF b hc; omega
  · refine same_trans (h.g2 b hb hO) (hs b (Nat.lt_of_lt_of_le hb h.g1.size) (fun hc => ?_))
    rcases h.g4 b hc with h1 | h1
    · exact hO h1
    · omega
  · rcases (hfl b hb).1 with h1 | h1
    · exact h.g4 b h1
    · exact .inr (Nat.le_trans h.g1.size h1)

def updV (V : Nat → Value) (d : Nat) (v : Value) : Nat → Value := fun i => if i = d then v else V i

/-- a slot is filled with a value: blocks on their way become its own -/
theorem SR.fillV {d : Nat} {v : Value} (h : SR e F w st V fp fl) (hgd : gh0 ≤ d → v = V d) (hv : m ≠ .j → isV t v) (hrep : rep F w t m x (cv v) fq) (hq : ∀ b, fq b → fl b) (hfl : ∀ b, fl' b → fl b ∧ ¬ fq b) :
    SR e F w ((st.kill d []).put d (.v t m x)) (updV V d v) (fun i b => (i ≠ d ∧ fp i b) ∨ (i = d ∧ fq b)) fl' := by
  have hV : ∀ i, i ≠ d → updV V d v i = V i := fun i hi => by simp [updV, hi]
  have hbx : ∀ r u, BxOk F w V r u → BxOk F w (updV V d v) r u := fun r u hb => hb.imp (fun _ hb => hb) (fun _ _ => rfl) (fun hr => by
    by_cases hrd : r = d
    · subst hrd; rw [show updV V r v r = v by simp [updV]]; exact hgd hr
    · exact hV r hrd)
  have hst : ∀ r', r' ≠ d → ∀ {t1 m1 x1}, ((st.kill d []).put d (.v t m x)) r' = .v t1 m1 x1 → st r' = .v t1 m1 x1 := by
    intro r' hr' t1 m1 x1 h1
    rw [put_other hr'] at h1
    exact kill_v.1 h1
  have hal : ∀ r' q v', r' ≠ d → AlOk w st V r' q v' → AlOk w ((st.kill d []).put d (.v t m x)) (updV V d v) r' q v' := by
    intro r' q v' hr' ha t1 m1 x1 h1
    obtain ⟨a1, a2, a3, u1, c1, b1, o1, a4, a5⟩ := ha t1 m1 x1 (hst r' hr' h1)
    exact ⟨a1, a2, a3, u1, c1, b1, o1, by rw [hV r' hr']; exact a4, a5⟩
  refine ⟨fun i => ?_, ⟨?_⟩, ?_, ?_, h.inF, ?_, fun b hb => h.flF b (hfl b hb).1, fun b hb => h.flH b (hfl b hb).1, h.g1, h.g2, ?_, fun b hb => h.g4 b (hfl b hb).1, h.g5, h.g6⟩
  · by_cases hid : i = d
    · subst hid
      rw [put_same, show updV V i v i = v by simp [updV]]
      exact ⟨hv, rep_fp (fun b hb => .inr ⟨rfl, hb⟩) hrep⟩
    · rw [put_other hid, hV i hid]
      have hfi : ∀ b, fp i b → (i ≠ d ∧ fp i b) ∨ (i = d ∧ fq b) := fun b hb => .inl ⟨hid, hb⟩
      have h1 := h.sv i
      cases hsi : st i with
      | v t1 m1 x1 => rw [hsi] at h1; rw [kill_v' hsi]; exact ⟨h1.1, rep_fp hfi h1.2⟩
      | al r' q =>
        rw [hsi] at h1
        rw [kill_al hsi, show stays [] q = false from rfl, Bool.not_false, Bool.and_true]
        cases hk : Nat.beq d r' with
        | true => trivial
        | false => exact hal _ _ _ (fun hc => by subst hc; rw [Nat.beq_refl] at hk; cases hk) h1
      | lz r' q =>
        rw [hsi] at h1
        rw [kill_lz hsi, show (q.isEmpty && !([] : List PE).isEmpty) = false by simp, Bool.not_false, Bool.and_true]
        cases hk : Nat.beq d r' with
        | true => trivial
        | false =>
          have hrd : r' ≠ d := fun hc => by subst hc; rw [Nat.beq_refl] at hk; cases hk
          intro t1 m1 x1 h2
          obtain ⟨a2, a3, u1, c1, ad1, a4, a5⟩ := h1 t1 m1 x1 (hst r' hrd h2)
          exact ⟨a2, a3, u1, c1, ad1, by rw [hV r' hrd]; exact a4, a5⟩
      | sub r' q lo hi =>
        rw [hsi] at h1
        rw [kill_sub hsi]
        cases hk : Nat.beq d r' with
        | true => trivial
        | false =>
          have hrd : r' ≠ d := fun hc => by subst hc; rw [Nat.beq_refl] at hk; cases hk
          intro t1 m1 x1 h2
          obtain ⟨a2, a3, u1, c1, ad1, a4, a5⟩ := h1 t1 m1 x1 (hst r' hrd h2)
          exact ⟨a2, a3, u1, c1, ad1, by rw [hV r' hrd]; exact a4, a5⟩
      | fn f s caps =>
        rw [hsi] at h1
        rw [kill_fn hsi]
        cases hk : ((s ++ caps).any fun c => Nat.beq d c.1 && !stays [] c.2) with
        | true => trivial
        | false =>
          obtain ⟨k1, k2⟩ := any_app hk
          obtain ⟨us, vs, e1, e2, e3⟩ := h1
          refine ⟨us, vs, e1, e2.imp hbx fun q u hq => hal _ _ _ fun hc => ?_, e3.imp hbx fun q u hq => hal _ _ _ fun hc => ?_⟩
          · have h9 := k1 q hq
            rw [hc, Nat.beq_refl] at h9
            simp [stays] at h9
          · have h9 := k2 q hq
            rw [hc, Nat.beq_refl] at h9
            simp [stays] at h9
      | bx r' q =>
        rw [hsi] at h1
        rw [kill_bx hsi]
        exact hbx _ _ h1
      | ifc T t1 x1 => rw [hsi] at h1; rw [kill_ifc hsi]; exact h1
      | tup l =>
        rw [hsi] at h1
        rw [kill_tup hsi]
        obtain ⟨vs, e1, e2, fs, e3, e4, e5⟩ := h1
        exact ⟨vs, e1, e2, fs, e3, fun k b hb => hfi b (e4 k b hb), e5⟩
      | nil => rw [hsi] at h1; rw [kill_nil hsi]; exact h1
      | un => rw [kill_un hsi]; trivial
  · intro i j hij b hb1 hb2
    rcases hb1 with ⟨h1, hb1⟩ | ⟨rfl, hb1⟩ <;> rcases hb2 with ⟨h2, hb2⟩ | ⟨rfl, hb2⟩
    · exact h.disj.disj _ _ hij _ hb1 hb2
    · exact h.flD _ _ hb1 (hq _ hb2)
    · exact h.flD _ _ hb2 (hq _ hb1)
    · exact hij rfl
  · rintro i b (⟨_, hb⟩ | ⟨rfl, hb⟩) hc
    · exact h.notF _ _ hb hc
    · exact h.flF _ (hq _ hb) hc
  · rintro i b (⟨_, hb⟩ | ⟨rfl, hb⟩)
    · exact h.inH _ _ hb
    · exact h.flH _ (hq _ hb)
  · rintro i b (⟨_, hb⟩ | ⟨rfl, hb⟩) hc
    · exact h.flD _ _ hb (hfl _ hc).1
    · exact (hfl _ hc).2 hb
  · rintro i b (⟨_, hb⟩ | ⟨rfl, hb⟩)
    · exact h.g3 _ _ hb
    · exact h.g4 _ (hq _ hb)

/-- is it no data? -/
def notV : SV → Bool
  | .v _ _ _ => false
  | _ => true

/-- a slot is filled with something else -/
theorem SR.fillO {d : Nat} {v : Value} {sv : SV} (h : SR e F w st V fp fl) (hgd : gh0 ≤ d → v = V d) (hn : notV sv = true) (hsv : svR F w st V fq v sv) (hq : ∀ b, fq b → fl b) (hfl : ∀ b, fl' b → fl b ∧ ¬ fq b) :
    SR e F w (st.put d sv) (updV V d v) (fun i b => (i ≠ d ∧ fp i b) ∨ (i = d ∧ fq b)) fl' := by
  have hV : ∀ i, i ≠ d → updV V d v i = V i := fun i hi => by simp [updV, hi]
  have hbx : ∀ r u, BxOk F w V r u → BxOk F w (updV V d v) r u := fun r u hb => hb.imp (fun _ hb => hb) (fun _ _ => rfl) (fun hr => by
    by_cases hrd : r = d
    · subst hrd; rw [show updV V r v r = v by simp [updV]]; exact hgd hr
    · exact hV r hrd)
  have hst : ∀ r', ∀ {t1 m1 x1}, (st.put d sv) r' = .v t1 m1 x1 → r' ≠ d ∧ st r' = .v t1 m1 x1 := by
    intro r' t1 m1 x1 h1
    by_cases hr' : r' = d
    · subst hr'; rw [put_same] at h1; subst h1; cases hn
    · rw [put_other hr'] at h1
      exact ⟨hr', h1⟩
  have hal : ∀ r' q v', AlOk w st V r' q v' → AlOk w (st.put d sv) (updV V d v) r' q v' := by
    intro r' q v' ha t1 m1 x1 h1
    obtain ⟨hr', h1⟩ := hst r' h1
    obtain ⟨a1, a2, a3, u1, c1, b1, o1, a4, a5⟩ := ha t1 m1 x1 h1
    exact ⟨a1, a2, a3, u1, c1, b1, o1, by rw [hV r' hr']; exact a4, a5⟩
  have hall : ∀ fp1 fp2 : Blks, (∀ b, fp1 b → fp2 b) → ∀ v' s, svR F w st V fp1 v' s → svR F w (st.put d sv) (updV V d v) fp2 v' s := by
    intro fp1 fp2 hsub v' s h1
    cases s with
    | v t1 m1 x1 => exact ⟨h1.1, rep_fp hsub h1.2⟩
    | al r' q => exact hal _ _ _ h1
    | lz r' q =>
      intro t1 m1 x1 h2
      obtain ⟨hr', h2⟩ := hst r' h2
      obtain ⟨a2, a3, u1, c1, ad1, a4, a5⟩ := h1 t1 m1 x1 h2
      exact ⟨a2, a3, u1, c1, ad1, by rw [hV r' hr']; exact a4, a5⟩
    | sub r' q lo hi =>
      intro t1 m1 x1 h2
      obtain ⟨hr', h2⟩ := hst r' h2
      obtain ⟨a2, a3, u1, c1, ad1, a4, a5⟩ := h1 t1 m1 x1 h2
      exact ⟨a2, a3, u1, c1, ad1, by rw [hV r' hr']; exact a4, a5⟩
    | fn f s caps =>
      obtain ⟨us, vs, e1, e2, e3⟩ := h1
      exact ⟨us, vs, e1, e2.imp hbx fun q u _ => hal _ _ _, e3.imp hbx fun q u _ => hal _ _ _⟩
    | bx r' q => exact hbx _ _ h1
    | ifc T t1 x1 => exact h1
    | tup l =>
      obtain ⟨vs, e1, e2, fs, e3, e4, e5⟩ := h1
      exact ⟨vs, e1, e2, fs, e3, fun k b hb => hsub b (e4 k b hb), e5⟩
    | nil => exact h1
    | un => trivial
  refine ⟨fun i => ?_, ⟨?_⟩, ?_, ?_, h.inF, ?_, fun b hb => h.flF b (hfl b hb).1, fun b hb => h.flH b (hfl b hb).1, h.g1, h.g2, ?_, fun b hb => h.g4 b (hfl b hb).1, h.g5, h.g6⟩
  · by_cases hid : i = d
    · subst hid
      rw [put_same, show updV V i v i = v by simp [updV]]
      exact hall _ _ (fun b hb => .inr ⟨rfl, hb⟩) _ _ hsv
    · rw [put_other hid, hV i hid]
      exact hall _ _ (fun b hb => .inl ⟨hid, hb⟩) _ _ (h.sv i)
  · intro i j hij b hb1 hb2
    rcases hb1 with ⟨h1, hb1⟩ | ⟨rfl, hb1⟩ <;> rcases hb2 with ⟨h2, hb2⟩ | ⟨rfl, hb2⟩
    · exact h.disj.disj _ _ hij _ hb1 hb2
    · exact h.flD _ _ hb1 (hq _ hb2)
    · exact h.flD _ _ hb2 (hq _ hb1)
    · exact hij rfl
  · rintro i b (⟨_, hb⟩ | ⟨rfl, hb⟩) hc
    · exact h.notF _ _ hb hc
    · exact h.flF _ (hq _ hb) hc
  · rintro i b (⟨_, hb⟩ | ⟨rfl, hb⟩)
    · exact h.inH _ _ hb
    · exact h.flH _ (hq _ hb)
  · rintro i b (⟨_, hb⟩ | ⟨rfl, hb⟩) hc
    · exact h.flD _ _ hb (hfl _ hc).1
    · exact (hfl _ hc).2 hb
  · rintro i b (⟨_, hb⟩ | ⟨rfl, hb⟩)
    · exact h.g3 _ _ hb
    · exact h.g4 _ (hq _ hb)

end
end Go.Trm
