import Derived.Test.YtiooemenojlbjaaGreatTrmOps8
import Derived.Laws.IdiomStrings
set_option linter.unusedVariables false
set_option linter.unusedSimpArgs false
namespace Go.Trm

section
variable {P : Program} {env : Env} {e : Entry} {F : Blks} {w : World} {st : St} {V : Nat → Value} {fp : Nat → Blks} {fl : Blks} {a : Act} {o : Oper} {R : Type} {K : Unit → St → Option R} {res : R} {C : Cx R} {gh : Nat → Value} {next : Act → World → Prop} {Q : Exit → Act → World → Prop}

/-- a new block -/
theorem SR.push {w' : World} {b : Nat} (hS : SR e F w st V fp fl) (hw : ∀ b, b < w.heap.size → w'.heap[b]? = w.heap[b]?) (hz : w'.heap.size = w.heap.size + 1) (hb : b = w.heap.size) (hst : Still w w') : SR e F w' st V fp (fun b' => fl b' ∨ b' = b) := by
  subst hb
  exact hS.world (fun b hb _ => hw b hb) ⟨hst, by omega⟩ (fun b hb => by
    rcases hb with hb | hb
    · exact ⟨.inl hb, by have := hS.flH b hb; omega⟩
    · exact ⟨.inr (by omega), by omega⟩)

theorem alloc_old {w : World} {ob : Obj} {b : Nat} (h : b < w.heap.size) : (w.alloc ob).heap[b]? = w.heap[b]? := by
  simp only [World.alloc, Array.getElem?_push]
  rw [if_neg (by omega)]

theorem alloc_new {w : World} {ob : Obj} : (w.alloc ob).heap[w.heap.size]? = some ob := by
  simp only [World.alloc]; exact Array.getElem?_push_size

/-- a slice value's parts -/
theorem sl_val {et : TypeId} {u : Ty} {v : Value} (hv : isV (.sl et u) v) : v = cv v 0 := by
  have h2 : v = valOf (.sl et u) (cv v) := hv
  simpa only [valOf, Ty.agg, Bool.false_eq_true, if_false] using h2
theorem ptr_val {et : TypeId} {u : Ty} {v : Value} (hv : isV (.ptr et u) v) : v = cv v 0 := by
  have h2 : v = valOf (.ptr et u) (cv v) := hv
  simpa only [valOf, Ty.agg, Bool.false_eq_true, if_false] using h2

theorem isV_sl {et : TypeId} {u : Ty} {A : Option Addr} {n c : Nat} : isV (.sl et u) (.slice A n c) := by
  simp only [isV, valOf, Ty.agg, Bool.false_eq_true, if_false]; rfl
theorem isV_ptr {et : TypeId} {u : Ty} {A : Option Addr} : isV (.ptr et u) (.pointer A) := by
  simp only [isV, valOf, Ty.agg, Bool.false_eq_true, if_false]; rfl

theorem bytesRow_size (s : ByteArray) (cap : Nat) (h : s.size ≤ cap) : (bytesRow s cap).size = cap := by
  simp only [bytesRow, Array.size_append, Array.size_map, Array.size_replicate]
  have : s.data.size = s.size := rfl
  omega

theorem bytesRow_get (y : List UInt8) (cap i : Nat) (h : i < y.length) : (bytesRow ⟨y.toArray⟩ cap).getD i undef = .int .u8 ((nums y).getD i (0 : Int)) := by
  simp only [bytesRow, Array.getD_eq_getD_getElem?]
  rw [Array.getElem?_append_left (by simpa using h)]
  simp [nums, List.getD, h]

theorem u8s_len (l : List Int) : (u8s l).length = l.length := by simp [u8s]

theorem run_b2s {et : TypeId} {v : Value} {m : Md} {y : List Int} {fq : Blks} (hv : isV (.sl et (.int .u8)) v) (hj : m.noJ = true) (hrep : rep F w (.sl et (.int .u8)) m y (cv v) fq) : (Conv.bytesToString v).run P w = .ok (.string ⟨(u8s y).toArray⟩) w := by
  have hm : m ≠ .j := by rintro rfl; cases hj
  obtain ⟨A, cap, q0, q1, q2⟩ := rep_sl hv hm hrep
  have q0' : v = .slice A y.length cap := q0
  have q1' : y.length ≤ cap := q1
  have hcv : cv v 0 = .slice A y.length cap := by rw [← sl_val hv]; exact q0
  rw [q0']
  have hnone : A = none → (cap = 0) → (Conv.bytesToString (.slice A y.length cap)).run P w = .ok (.string ⟨(u8s y).toArray⟩) w := by
    rintro rfl rfl
    have : y = [] := List.eq_nil_of_length_eq_zero (by omega)
    subst this
    rfl
  have hsome : ∀ (b k : Nat) m, m ≠ .j → A = some ⟨b, k, none⟩ → holdsW w b (k + y.length) false → (∃ fs : Nat → Blks, ∀ i, i < y.length → rep F w (.int .u8) m (y.getD i (0:Int)) (rowW w b (k + i)) (fs i)) →
      (Conv.bytesToString (.slice A y.length cap)).run P w = .ok (.string ⟨(u8s y).toArray⟩) w := by
    rintro b k m hm rfl hh ⟨fs, hr⟩
    refine (run_bytesToString w _ _ cap y (cells_bytes hh hm hr)).trans ?_
    rw [u8s_fold]
    rfl
  cases m with
  | j => exact absurd rfl hm
  | p _ _ =>
    simp only [rep] at hrep
    obtain ⟨A', cap', p1, p2, p3, p4, p5⟩ := hrep
    rw [hcv] at p1; cases p1
    cases A with
    | none => exact hnone rfl (p4 rfl)
    | some A => exact (p5 A rfl).2.elim
  | s =>
    simp only [rep] at hrep
    obtain ⟨A', cap', p1, p2, p3, p4, p5⟩ := hrep
    rw [hcv] at p1; cases p1
    cases A with
    | none => exact hnone rfl (p4 rfl)
    | some A =>
      obtain ⟨hsp, p6, p7⟩ := p5 A rfl
      by_cases hc0 : cap = 0
      · have : y = [] := List.eq_nil_of_length_eq_zero (by omega)
        subst this
        exact run_bytesToString (P := P) w A 0 cap [] (run_loadCells w A 0 (fun _ => undef) (fun j hj => by omega))
      replace hsp := hsp (by omega)
      obtain ⟨b, k, sp⟩ := A
      simp only at hsp
      subst hsp
      simp only [Ty.size, Nat.mul_one] at p6 p7
      rcases p6 with p6 | ⟨_, p6⟩
      · have : y = [] := List.eq_nil_of_length_eq_zero p6
        subst this
        exact run_bytesToString (P := P) w ⟨b, k, none⟩ 0 cap [] (run_loadCells w ⟨b, k, none⟩ 0 (fun _ => undef) (fun j hj => by omega))
      · exact hsome b k .s nofun rfl p6 ⟨fun _ => none', fun i hi => p7 i hi⟩
  | o m' =>
    simp only [rep] at hrep
    obtain ⟨A', cap', p1, p2, p3, p4, p5⟩ := hrep
    rw [hcv] at p1; cases p1
    cases A with
    | none => exact hnone rfl (p4 rfl)
    | some A =>
      obtain ⟨hsp, p6, p7, fs, p8, p9, p10⟩ := p5 A rfl
      by_cases hc0 : cap = 0
      · have : y = [] := List.eq_nil_of_length_eq_zero (by omega)
        subst this
        exact run_bytesToString (P := P) w A 0 cap [] (run_loadCells w A 0 (fun _ => undef) (fun j hj => by omega))
      replace hsp := hsp (by omega)
      obtain ⟨b, k, sp⟩ := A
      simp only at hsp
      subst hsp
      simp only [Ty.size, Nat.mul_one] at p7 p10
      have hl : holdsW w b (k + y.length) false := by
        obtain ⟨cs, el, fz, z1, z2, _⟩ := p7
        exact ⟨cs, el, fz, z1, by have z3 : k + cap ≤ cs.size := z2; omega, nofun⟩
      have hm' : m' ≠ .j := by rintro rfl; cases hj
      exact hsome b k m' hm' rfl hl ⟨fs, p10⟩

theorem run_s2b {S T et : TypeId} (y : List UInt8) (hs : P.underlying S = some .string) (hd : P.underlying T = some (.slice et)) (he : P.underlying et = some (.int .u8)) :
    (convert S T (.string ⟨y.toArray⟩)).run P w = .ok (.slice (some ⟨w.heap.size, 0, none⟩) y.length (grownCap w y.length 0 et))
      (w.drew.alloc (.cells (bytesRow ⟨y.toArray⟩ (grownCap w y.length 0 et)) et ((bytesRow ⟨y.toArray⟩ (grownCap w y.length 0 et)).size, (bytesRow ⟨y.toArray⟩ (grownCap w y.length 0 et)).size + 1))) := by
  have hr := run_bytes_of_string (P := P) w S T et ⟨y.toArray⟩ hs hd he
  rwa [str_size] at hr

theorem rep_bytes {et : TypeId} {y : List UInt8} {gc : Nat} {w' : World} {N : Nat} (hcap : y.length ≤ gc) (hmx : gc ≤ 2 ^ 63 - 1) (hnew : w'.heap[N]? = some (.cells (bytesRow ⟨y.toArray⟩ gc) et ((bytesRow ⟨y.toArray⟩ gc).size, (bytesRow ⟨y.toArray⟩ gc).size + 1))) :
    rep F w' (.sl et (.int .u8)) (.o .s) (nums y) (cv (.slice (some ⟨N, 0, none⟩) y.length gc)) (fun b => b = N) := by
  have hnl : (nums y).length = y.length := by simp [nums]
  have hrow := bytesRow_size ⟨y.toArray⟩ gc (by rw [str_size]; exact hcap)
  simp only [rep]
  refine ⟨some ⟨N, 0, none⟩, gc, ?_, ?_, hmx, nofun, fun A' hA' => ?_⟩
  · show Value.slice _ _ _ = Value.slice _ (nums y).length _
    rw [hnl]
  · show (nums y).length ≤ gc
    rw [hnl]; exact hcap
  · cases hA'
    refine ⟨fun _ => rfl, rfl, ⟨_, _, _, hnew, ?_, ?_⟩, fun _ => none', ⟨fun _ _ _ _ hb => hb.elim⟩, fun _ _ hb => hb.elim, fun i hi => ?_⟩
    · rw [hrow]; simp [Ty.size]
    · exact fun _ => .inr (Nat.le_refl _)
    · have hi' : i < (nums y).length := hi
      rw [hnl] at hi'
      have hb := bytesRow_get y gc i hi'
      have e2 : rowW w' N (0 + i * Ty.size (.int .u8)) 0 = (bytesRow ⟨y.toArray⟩ gc).getD i undef := by
        simp only [rowW, hnew, rowOf, Ty.size, Nat.mul_one, Nat.zero_add, Nat.add_zero]
      refine ⟨e2.trans hb, ?_⟩
      have : ((nums y).getD i (0 : Int)) = ((y.getD i 0).toNat : Int) := by simp [nums, List.getD, hi']
      have h4 : ((y.getD i (0 : UInt8)).toNat) < 256 := UInt8.toNat_lt _
      have e3 : IntKind.u8.min = 0 := by decide
      have e4 : IntKind.u8.max = 255 := by decide
      show IntKind.u8.has ((nums y).getD i (0 : Int))
      rw [this]
      constructor
      · rw [e3]; omega
      · rw [e4]; omega

theorem op_convI (hE : EnvTy P env) (hp : isConvI env o.op = true) (hS : SR e F w st V fp none') (hA : AR env gh a V) (hN : Nxt env gh e K res next) (h : (evOp env o).run C st K = some res) : wpp P o a w next := by
  unfold isConvI at hp
  split at hp
  · rename_i S T x ho
    simp only [evOp, ho] at h
    split at hp
    · rename_i k hd
      rw [hd] at h
      cases hs : env.ty S with
      | none => rw [hs] at h; simp [RM.run] at h
      | some ts =>
        rw [hs] at h
        simp only at h
        obtain ⟨kd, n, h1, e1, r1⟩ := rdInt_inv hS hA h
        obtain ⟨d, hu⟩ := wt_und (hE.ty _ _ hs)
        refine endVp (v := .int k (k.wrap n)) hS hA hN h1 (fun _ => rfl) (mk_int (wrap_has _ _)) (fun _ hb => hb) fun w' => ?_
        simp only [execOp, ho, Sem.run_bind]
        rw [e1, run_wrapInt hu (wt_int (hE.ty _ _ hd))]
        rfl
    · cases hp
  · cases hp

theorem freeze_heap {w : World} {b n : Nat} {cs : Array Value} {el : TypeId} {fz : Nat × Nat} (h : w.heap[b]? = some (.cells cs el fz)) :
    (w.freeze ⟨b, n, none⟩ 1).heap[b]? = some (.cells cs el (if fz.1 == fz.2 then (n, n + 1) else (min fz.1 n, max fz.2 (n + 1)))) ∧ (∀ b', b' ≠ b → (w.freeze ⟨b, n, none⟩ 1).heap[b']? = w.heap[b']?) ∧ (w.freeze ⟨b, n, none⟩ 1).heap.size = w.heap.size := by
  obtain ⟨lo, hi⟩ := fz
  unfold World.freeze
  rw [if_neg (by decide)]
  have hb := (Array.getElem?_eq_some_iff.1 h).1
  refine ⟨?_, fun b' hb' => ?_, ?_⟩
  · simp only [Array.getElem?_modify, h, if_true, Option.map_some]
  · simp only [Array.getElem?_modify, if_neg (Ne.symm hb')]
  · simp

theorem op_mark {S et : TypeId} {y : List Int} {val : Value} {fq : Blks} (g1 : P.underlying S = some (.slice et)) (g2 : P.underlying et = some (.int .u8)) (hS : SR e F w st V fp fl) (hv : isV (.sl et (.int .u8)) val) (hr : rep F w (.sl et (.int .u8)) (.o .s) y (cv val) fq) (h0 : 0 < y.length) (hq : ∀ b, fq b → fl b) :
    ∃ w', (convert S S val).run P w = .ok val w' ∧ SR e F w' st V fp fl ∧ rep F w' (.sl et (.int .u8)) (.o .s) y (cv val) fq := by
  have hval := sl_val hv
  have hr0 := hr
  simp only [rep] at hr
  obtain ⟨A, cap, q1, q2, q3, q4, q5⟩ := hr
  have q2' : y.length ≤ cap := q2
  cases A with
  | none => have := q4 rfl; omega
  | some A =>
    obtain ⟨hsp, p1, p2, fs, d1, s1, r1⟩ := q5 A rfl
    replace hsp := hsp (by omega)
    obtain ⟨b, k, sp⟩ := A
    simp only at hsp
    subst hsp
    simp only at p1 p2 s1 r1
    obtain ⟨cs, el, fz, c1, c2, c3⟩ := p2
    obtain ⟨k1, k2, k3⟩ := freeze_heap (n := cs.size) c1
    have hsh : w.shape? b = some (el, cs.size) := by unfold World.shape?; rw [c1]
    refine ⟨w.freeze ⟨b, cs.size, none⟩ 1, ?_, hS.world (fun b' _ hb' => k2 b' (fun hc => hb' (hc ▸ hq b p1))) ⟨⟨rfl, rfl, rfl⟩, Nat.le_of_eq k3.symm⟩ (fun b' hb' => ⟨.inl hb', by rw [k3]; exact hS.flH b' hb'⟩), ?_⟩
    · rw [hval.trans q1]
      simp [convert, run_underlying g1, run_underlying g2, markStringish, hsh]
    · simp only [rep]
      refine ⟨some ⟨b, k, none⟩, cap, q1, q2, q3, nofun, fun A hA => ?_⟩
      cases hA
      refine ⟨fun _ => rfl, p1, ⟨cs, el, _, k1, c2, fun h => ?_⟩, fs, d1, s1, fun i hi => ?_⟩
      · have c4 := c3 h
        split
        · exact .inr (Nat.le_refl _)
        · rename_i hne
          rcases c4 with c4 | c4
          · simp [c4] at hne
          · exact .inr (by simp only; omega)
      · have h1 := r1 i hi
        have e1 : rowW (w.freeze ⟨b, cs.size, none⟩ 1) b (k + i * Ty.size (.int .u8)) = rowW w b (k + i * Ty.size (.int .u8)) := by
          funext j
          simp only [rowW, k1, c1]
        rw [e1]
        exact h1

theorem runeB_len (n : Int) : (runeB n).length ≤ 4 := by
  unfold runeB Utf8.encode
  dsimp only
  generalize (if Utf8.valid n = true then n.toNat else Utf8.runeError) = c
  by_cases h1 : c < 128
  · rw [if_pos h1]; exact Nat.le_of_ble_eq_true rfl
  · rw [if_neg h1]
    by_cases h2 : c < 2048
    · rw [if_pos h2]; exact Nat.le_of_ble_eq_true rfl
    · rw [if_neg h2]
      by_cases h3 : c < 65536
      · rw [if_pos h3]; exact Nat.le_of_ble_eq_true rfl
      · rw [if_neg h3]; exact Nat.le_of_ble_eq_true rfl

theorem op_convert {S T : TypeId} {x : Operand} (hE : EnvTy P env) (ho : o.op = .convert S T x) (hS : SR e F w st V fp none') (hA : AR env gh a V) (hN : Nxt env gh e K res next) (h : (evOp env o).run C st K = some res) : o.wp P a w next Q := by
  simp only [evOp, ho] at h
  have hrun : ∀ {v : Value} {w' : World}, (convert S T (a.eval x)).run P w = .ok v w' → (execOp a.eval o).run P w = .ok (.value v) w' := by
    intro v w' hc
    simp only [execOp, ho, Sem.run_bind, hc, Result.andThen_ok, Sem.run_pure]
  split at h
  · rename_i ts k hs hd
    obtain ⟨kd, n, h1, e1, r1⟩ := rdInt_inv hS hA h
    obtain ⟨d, hu⟩ := wt_und (hE.ty _ _ hs)
    refine endV (v := .int k (k.wrap n)) hS hA hN h1 (fun _ => rfl) (mk_int (wrap_has _ _)) (fun _ hb => hb) (hrun ?_)
    rw [e1]
    exact run_wrapInt hu (wt_int (hE.ty _ _ hd))
  · rename_i ts hs hd
    obtain ⟨t, m, y, src, h1, hda, _⟩ := rdV_inv hS hA h
    obtain ⟨hv, hm, fq, hrep, _⟩ := hda.rep hS
    split at h1
    · rename_i et y hT
      simp only [Bool.and_eq_true] at hT
      obtain ⟨g1, g2⟩ := wt_sl (Env.is_ok hE hT.1)
      have g3 := wt_int g2
      have hd' := wt_str (hE.ty _ _ hd)
      refine endV (v := .string ⟨(u8s y).toArray⟩) hS hA hN h1 (fun _ => rfl) (mk_str ?_) (fun _ hb => hb) (hrun ?_)
      · obtain ⟨A, cap, q0, q1, q2⟩ := rep_sl hv hm hrep
        exact Nat.le_trans (Nat.le_of_eq (u8s_len y)) (Nat.le_trans q1 q2)
      have hc : ∀ {x : Value} {A : Option Addr} {n c : Nat}, x = .slice A n c → (convert S T x).run P w = (Conv.bytesToString x).run P w := by
        rintro x A n c rfl
        simp only [convert, Sem.run_bind, run_underlying g1, run_underlying hd', run_underlying g3, Result.andThen_ok]
      obtain ⟨A, cap, q0, q1, q2⟩ := rep_sl hv hm hrep
      rw [hc q0]
      exact run_b2s hv hT.2 hrep
    · rename_i kk y hT
      simp only [Bool.and_eq_true] at hT
      have g3 := wt_int (Env.is_ok hE hT.1)
      have hd' := wt_str (hE.ty _ _ hd)
      have e1 := (rep_int hv hm hrep).1
      refine endV (v := .string ⟨(runeB y).toArray⟩) hS hA hN h1 (fun _ => rfl) (mk_str ?_) (fun _ hb => hb) (hrun ?_)
      · exact Nat.le_trans (runeB_len y) (by omega)
      · rw [e1]
        simp only [convert, Sem.run_bind, run_underlying g3, run_underlying hd', Result.andThen_ok]
        rfl
    · simp [RM.run] at h1
  · rename_i ts et hs hd
    obtain ⟨t, m, y, src, h1, hda, _⟩ := rdV_inv hS hA h
    obtain ⟨hv, hm, fq, hrep, _⟩ := hda.rep hS
    split at h1
    · rename_i y hT
      have e1 := (rep_str hv hm hrep).1
      simp only [RM.run] at h1
      cases hq : decide (List.length y ≤ most) with
      | false => rw [hq] at h1; cases h1
      | true =>
        rw [hq] at h1
        have hq' := of_decide_eq_true hq
        obtain ⟨g1, g2⟩ := wt_sl (hE.ty _ _ hd)
        have hr := run_s2b (P := P) (w := w) y (wt_str (Env.is_ok hE hT)) g1 (wt_int g2)
        have hmx' : List.length (α := UInt8) y ≤ maxLen := by unfold maxLen; unfold most at hq'; have : List.length (α := UInt8) y ≤ 4294967296 := hq'; omega
        have hcap := grownCap_ge w (List.length (α := UInt8) y) 0 et
        have hmx := grownCap_le_maxLen w (List.length (α := UInt8) y) 0 et hmx'
        have hnew := alloc_new (w := w.drew) (ob := .cells (bytesRow ⟨List.toArray (α := UInt8) y⟩ (grownCap w (List.length (α := UInt8) y) 0 et)) et ((bytesRow ⟨List.toArray (α := UInt8) y⟩ (grownCap w (List.length (α := UInt8) y) 0 et)).size, (bytesRow ⟨List.toArray (α := UInt8) y⟩ (grownCap w (List.length (α := UInt8) y) 0 et)).size + 1))
        refine endV (fq := fun b => b = w.heap.size) (hS.push (w' := w.drew.alloc _) (fun b hb => alloc_old (w := w.drew) hb) (World.size_alloc w.drew _) rfl ⟨rfl, rfl, rfl⟩) hA hN h1 (fun _ => isV_sl) (rep_bytes hcap hmx hnew) (fun _ hb => .inr hb) (hrun (by rw [e1]; exact hr))
    · rename_i e' y hT
      split at h1
      · rename_i hST
        have hST' := Nat.eq_of_beq_eq_true hST
        subst hST'
        obtain ⟨st1, fp1, fq1, h2, hS1, hv1, _, hr1, _⟩ := take_inv hS hda h1
        simp only [RM.run] at h2
        cases hb : Nat.blt 0 (List.length (α := (Ty.int .u8).I) y) with
        | false => rw [hb] at h2; cases h2
        | true =>
          rw [hb] at h2
          have hb' : 0 < List.length (α := Int) y := Nat.le_of_ble_eq_true hb
          obtain ⟨g1, g2⟩ := wt_sl (Env.is_ok hE hT)
          obtain ⟨w', hr, hS2, hr2⟩ := op_mark g1 (wt_int g2) hS1 hv1 hr1 hb' (fun b hb => .inr hb)
          exact endV hS2 hA hN h2 (fun _ => hv1) hr2 (fun b hb => .inr hb) (hrun hr)
      · simp [RM.run] at h1
    · simp [RM.run] at h1
  · simp [RM.run] at h

end
end Go.Trm
