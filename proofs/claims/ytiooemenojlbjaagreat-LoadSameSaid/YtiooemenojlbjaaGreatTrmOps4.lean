import Derived.Test.YtiooemenojlbjaaGreatTrmOps3
import Derived.Laws.Strings
set_option linter.unusedVariables false
set_option linter.unusedSimpArgs false
namespace Go.Trm

theorem wrap_has (k : IntKind) (n : Int) : k.has (k.wrap n) := by
  cases k <;> simp only [IntKind.has, IntKind.wrap, IntKind.min, IntKind.max, IntKind.bits, IntKind.signed, Bool.true_and, Bool.false_and, Bool.false_eq_true, if_true, if_false] <;>
    first
      | omega
      | (split <;> rename_i h <;> first | (have := of_decide_eq_true h; omega) | (have : ¬ _ := fun hc => h (decide_eq_true hc); omega))

theorem tmod_has {k : IntKind} {x : Int} (y : Int) (h : k.has x) : k.has (x.tmod y) := by
  have h0 : k.min ≤ 0 ∧ 0 ≤ k.max := by cases k <;> decide
  obtain ⟨h1, h2⟩ := h
  rcases Int.le_total 0 x with hx | hx
  · have h3 : 0 ≤ x.tmod y := Int.tmod_nonneg y hx
    have h4 : x.tmod y ≤ x := by
      obtain ⟨n, rfl⟩ := Int.eq_ofNat_of_zero_le hx
      have : (Int.tmod (n : Int) y).natAbs = n % y.natAbs := by rw [Int.natAbs_tmod]; rfl
      have h5 := Nat.mod_le n y.natAbs
      omega
    exact ⟨by omega, by omega⟩
  · have h3 : x.tmod y ≤ 0 := by
      have := Int.tmod_nonneg y (show 0 ≤ -x by omega)
      rw [Int.neg_tmod] at this
      omega
    have h4 : x ≤ x.tmod y := by
      have : (Int.tmod x y).natAbs = x.natAbs % y.natAbs := Int.natAbs_tmod ..
      have h5 := Nat.mod_le x.natAbs y.natAbs
      omega
    exact ⟨by omega, by omega⟩

theorem fdiv_has {k : IntKind} {x : Int} (n : Nat) (h : k.has x) : k.has (x.fdiv (2 ^ n)) := by
  have h0 : k.min ≤ 0 ∧ 0 ≤ k.max ∧ (k.min = 0 ∨ k.min ≤ -1) := by cases k <;> decide
  obtain ⟨h1, h2⟩ := h
  have hp : (0 : Int) < 2 ^ n := Int.pow_pos (by decide)
  have hf : x.fdiv (2 ^ n) = x / 2 ^ n := Int.fdiv_eq_ediv_of_nonneg _ (Int.le_of_lt hp)
  rw [hf]
  rcases Int.le_total 0 x with hx | hx
  · have h3 : 0 ≤ x / 2 ^ n := Int.ediv_nonneg hx (Int.le_of_lt hp)
    have h4 : x / 2 ^ n ≤ x := Int.ediv_le_self _ hx
    exact ⟨by omega, by omega⟩
  · have h3 : x / 2 ^ n ≤ 0 := Int.ediv_nonpos_of_nonpos_of_neg hx hp
    have h4 : x ≤ x / 2 ^ n := by
      refine Int.le_ediv_of_mul_le hp ?_
      have := Int.mul_le_mul_of_nonpos_left hx (show (1 : Int) ≤ 2 ^ n by omega)
      omega
    exact ⟨by omega, by omega⟩

section
variable {P : Program} {env : Env} {e : Entry} {F : Blks} {w : World} {st : St} {V : Nat → Value} {fp : Nat → Blks} {fl : Blks} {a : Act} {o : Oper} {R : Type} {K : Unit → St → Option R} {res : R} {C : Cx R} {gh : Nat → Value} {next : Act → World → Prop} {Q : Exit → Act → World → Prop}

theorem run_binI {op : BinOp} {k : IntKind} {x y : Int} {t : Ty} {z : t.I} (h : binI op k x y = some ⟨t, z⟩) (hx : k.has x) (hy : op = .quo ∨ op = .rem → y ≠ 0) (T : TypeId) :
    ∃ v, (∀ w, (binOp op T (.int k x) (.int k y)).run P w = .ok v w) ∧ isV t v ∧ rep F w t .s z (cv v) none' := by
  cases op <;> simp only [binI, Option.some.injEq, reduceCtorEq] at h <;> cases h
  case add => exact ⟨.int k (k.wrap (x + y)), fun w => by simp [binOp, Op.intArith], rfl, mk_int (wrap_has _ _)⟩
  case sub => exact ⟨.int k (k.wrap (x - y)), fun w => by simp [binOp, Op.intArith], rfl, mk_int (wrap_has _ _)⟩
  case mul => exact ⟨.int k (k.wrap (x * y)), fun w => by simp [binOp, Op.intArith], rfl, mk_int (wrap_has _ _)⟩
  case quo => exact ⟨.int k (k.wrap (x.tdiv y)), fun w => by simp [binOp, Op.intDiv, hy (.inl rfl)], rfl, mk_int (wrap_has _ _)⟩
  case rem => exact ⟨.int k (x.tmod y), fun w => by simp [binOp, Op.intDiv, hy (.inr rfl)], rfl, mk_int (tmod_has _ hx)⟩
  case and => exact ⟨.int k (k.wrap (BitVec.ofInt k.bits x &&& BitVec.ofInt k.bits y).toNat), fun w => by simp only [binOp, Op.intBits, ne_eq, not_true_eq_false, if_false]; rfl, rfl, mk_int (wrap_has _ _)⟩
  case or => exact ⟨.int k (k.wrap (BitVec.ofInt k.bits x ||| BitVec.ofInt k.bits y).toNat), fun w => by simp only [binOp, Op.intBits, ne_eq, not_true_eq_false, if_false]; rfl, rfl, mk_int (wrap_has _ _)⟩
  case xor => exact ⟨.int k (k.wrap (BitVec.ofInt k.bits x ^^^ BitVec.ofInt k.bits y).toNat), fun w => by simp only [binOp, Op.intBits, ne_eq, not_true_eq_false, if_false]; rfl, rfl, mk_int (wrap_has _ _)⟩
  case andNot => exact ⟨.int k (k.wrap (BitVec.ofInt k.bits x &&& ~~~(BitVec.ofInt k.bits y)).toNat), fun w => by simp only [binOp, Op.intBits, ne_eq, not_true_eq_false, if_false]; rfl, rfl, mk_int (wrap_has _ _)⟩
  case eql => exact ⟨.bool (x == y), fun w => by simp only [binOp, Op.intCmp, ne_eq, not_true_eq_false, if_false]; rfl, rfl, mk_bool⟩
  case neq => exact ⟨.bool (x != y), fun w => by simp only [binOp, Op.intCmp, ne_eq, not_true_eq_false, if_false]; rfl, rfl, mk_bool⟩
  case lss => exact ⟨.bool (decide (x < y)), fun w => by simp only [binOp, Op.intCmp, ne_eq, not_true_eq_false, if_false]; rfl, rfl, mk_bool⟩
  case leq => exact ⟨.bool (decide (x ≤ y)), fun w => by simp only [binOp, Op.intCmp, ne_eq, not_true_eq_false, if_false]; rfl, rfl, mk_bool⟩
  case gtr => exact ⟨.bool (decide (x > y)), fun w => by simp only [binOp, Op.intCmp, ne_eq, not_true_eq_false, if_false]; rfl, rfl, mk_bool⟩
  case geq => exact ⟨.bool (decide (x ≥ y)), fun w => by simp only [binOp, Op.intCmp, ne_eq, not_true_eq_false, if_false]; rfl, rfl, mk_bool⟩

theorem toList_mk (l : List UInt8) : (⟨l.toArray⟩ : ByteArray).toList = l := by
  rw [ByteArray.toList_eq]

theorem eqGuard_int {op : BinOp} {T : TypeId} {x y : Operand} {k k' : IntKind} {p q : Int} : (eqGuard op T x y (.int k p) (.int k' q)).run P w = .ok () w := by
  cases op <;> rfl
theorem eqGuard_str {op : BinOp} {T : TypeId} {x y : Operand} {p q : ByteArray} : (eqGuard op T x y (.string p) (.string q)).run P w = .ok () w := by
  cases op <;> rfl
theorem eqGuard_bool {op : BinOp} {T : TypeId} {x y : Operand} {p q : Bool} : (eqGuard op T x y (.bool p) (.bool q)).run P w = .ok () w := by
  cases op <;> rfl

theorem shift_has {k : IntKind} {x y : Int} (h : k.has x) : k.has (shlI k x y) ∧ k.has (shrI k x y) := ⟨wrap_has _ _, fdiv_has _ h⟩

theorem run_equalIn_bool {d : Nat} {T : TypeId} {p q : Bool} (h : P.underlying T = some .bool) : (Op.equalIn (d + 1) T (.bool p) (.bool q)).run P w = .ok (p == q) w := by
  simp only [Op.equalIn, Sem.run_bind, run_underlying h, Result.andThen_ok, Sem.run_pure]
theorem run_equal_bool {T : TypeId} {p q : Bool} (h : P.underlying T = some .bool) : (Op.equal T (.bool p) (.bool q)).run P w = .ok (p == q) w :=
  run_equalIn_bool (d := 9999) h

theorem evI_ok {op : BinOp} {T U : TypeId} {x y : Operand} {k k' : IntKind} {p q : Int} (ho : o.op = .binOp op T x y U) (e1 : a.eval x = .int k p) (r1 : k.has p) (e2 : a.eval y = .int k' q) (hS : SR e F w st V fp none') (hA : AR env gh a V) (hN : Nxt env gh e K res next)
    (h2 : (evI env o op k k' p q).run C st K = some res) : wpp P o a w next := by
  have hgen : ∀ v, (∀ w, (binOp op T (.int k p) (.int k' q)).run P w = .ok v w) → ∀ w, (execOp a.eval o).run P w = .ok (.value v) w := by
    intro v hb w
    simp only [execOp, ho, e1, e2, Sem.run_bind, eqGuard_int, Result.andThen_ok, hb, Sem.run_pure]
  have hother : (match kEq k k', binI op k p q with
      | true, some ⟨t, z⟩ => chkI op q (fin env o (.v t .s z))
      | _, _ => .fail : RM Unit).run C st K = some res → wpp P o a w next := by
    intro h3
    split at h3
    · rename_i t z hk hb
      obtain rfl := kEq_eq hk
      have hc : (fin env o (.v t .s z)).run C st K = some res ∧ (op = .quo ∨ op = .rem → q ≠ 0) := by
        unfold chkI at h3
        split at h3
        · simp only [RM.run] at h3
          cases hq : (q != 0) with
          | true => rw [hq] at h3; exact ⟨h3, fun _ => by simpa using hq⟩
          | false => rw [hq] at h3; cases h3
        · simp only [RM.run] at h3
          cases hq : (q != 0) with
          | true => rw [hq] at h3; exact ⟨h3, fun _ => by simpa using hq⟩
          | false => rw [hq] at h3; cases h3
        · rename_i hn1 hn2
          exact ⟨h3, fun hc => by rcases hc with hc | hc; exact absurd hc hn1; exact absurd hc hn2⟩
      obtain ⟨v, hr, hvv, hrp⟩ := run_binI (P := P) (F := F) (w := w) hb r1 hc.2 T
      exact endVp hS hA hN hc.1 (fun _ => hvv) hrp (fun _ hb => hb) (hgen v hr)
    · simp [RM.run] at h3
  simp only [evI] at h2
  split at h2
  · simp only [RM.run] at h2
    cases hq : decide (0 ≤ q) with
    | false => rw [hq] at h2; cases h2
    | true =>
      rw [hq] at h2
      have hq' : ¬ q < 0 := by have := of_decide_eq_true hq; omega
      refine endVp (v := .int k (shlI k p q)) hS hA hN h2 (fun _ => rfl) (mk_int (shift_has r1).1) (fun _ hb => hb) (hgen _ ?_)
      intro w
      simp only [binOp, Op.shift, hq', if_false]
      rfl
  · simp only [RM.run] at h2
    cases hq : decide (0 ≤ q) with
    | false => rw [hq] at h2; cases h2
    | true =>
      rw [hq] at h2
      have hq' : ¬ q < 0 := by have := of_decide_eq_true hq; omega
      refine endVp (v := .int k (shrI k p q)) hS hA hN h2 (fun _ => rfl) (mk_int (shift_has (y := q) r1).2) (fun _ hb => hb) (hgen _ ?_)
      intro w
      simp only [binOp, Op.shift, hq', if_false]
      rfl
  · exact hother h2

theorem evS_ok {op : BinOp} {T U : TypeId} {x y : Operand} {p q : List UInt8} (ho : o.op = .binOp op T x y U) (e1 : a.eval x = .string ⟨p.toArray⟩) (e2 : a.eval y = .string ⟨q.toArray⟩) (hS : SR e F w st V fp none') (hA : AR env gh a V) (hN : Nxt env gh e K res next)
    (h2 : (evS env o op p q).run C st K = some res) : wpp P o a w next := by
  have hgen : ∀ v, (∀ w, (binOp op T (.string ⟨p.toArray⟩) (.string ⟨q.toArray⟩)).run P w = .ok v w) → ∀ w, (execOp a.eval o).run P w = .ok (.value v) w := by
    intro v hb w
    simp only [execOp, ho, e1, e2, Sem.run_bind, eqGuard_str, Result.andThen_ok, hb, Sem.run_pure]
  unfold evS at h2
  split at h2
  · simp only [RM.run] at h2
    cases hq : decide (List.length p + List.length q ≤ most) with
    | false => rw [hq] at h2; cases h2
    | true =>
      rw [hq] at h2
      have hq' := of_decide_eq_true hq
      unfold most at hq'
      refine endVp (v := .string ⟨(p ++ q).toArray⟩) hS hA hN h2 (fun _ => rfl) (mk_str (by rw [List.length_append]; omega)) (fun _ hb => hb) (hgen _ ?_)
      intro w
      have hsz : ¬ ((((⟨p.toArray⟩ : ByteArray).size + (⟨q.toArray⟩ : ByteArray).size : Nat) : Int) > IntKind.i64.max) := by
        have e3 : (⟨p.toArray⟩ : ByteArray).size = List.length p := by simp [ByteArray.size]
        have e4 : (⟨q.toArray⟩ : ByteArray).size = List.length q := by simp [ByteArray.size]
        rw [e3, e4]
        have : IntKind.i64.max = 9223372036854775807 := by decide
        omega
      have happ : (⟨p.toArray⟩ : ByteArray) ++ ⟨q.toArray⟩ = ⟨(p ++ q).toArray⟩ := by
        apply ByteArray.ext
        rw [ByteArray.data_append]
        simp
      simp only [binOp, Op.stringOp]
      rw [if_neg hsz, happ]
      rfl
  · refine endVp (v := .bool (p == q)) hS hA hN h2 (fun _ => rfl) mk_bool (fun _ hb => hb) (hgen _ ?_)
    intro w
    simp only [binOp, Op.stringOp, toList_mk]; rfl
  · refine endVp (v := .bool (!(p == q))) hS hA hN h2 (fun _ => rfl) mk_bool (fun _ hb => hb) (hgen _ ?_)
    intro w
    simp only [binOp, Op.stringOp, toList_mk]; rfl
  · simp [RM.run] at h2

theorem evL_ok {op : BinOp} {T U : TypeId} {x y : Operand} {p q : Bool} (hE : EnvTy P env) (ho : o.op = .binOp op T x y U) (e1 : a.eval x = .bool p) (e2 : a.eval y = .bool q) (hS : SR e F w st V fp none') (hA : AR env gh a V) (hN : Nxt env gh e K res next)
    (h2 : (evL env o op T p q).run C st K = some res) : wpp P o a w next := by
  unfold evL at h2
  cases hT : env.is T .bool with
  | false => rw [hT] at h2; simp [RM.run] at h2
  | true =>
  rw [hT] at h2
  cases op with
  | eql =>
    refine endVp (v := .bool (p == q)) hS hA hN h2 (fun _ => rfl) mk_bool (fun _ hb => hb) ?_
    intro w
    simp only [execOp, ho, e1, e2, Sem.run_bind, eqGuard_bool, Result.andThen_ok, binOp, run_equal_bool (wt_bool (Env.is_ok hE hT)), Sem.run_pure]
  | neq =>
    refine endVp (v := .bool (!(p == q))) hS hA hN h2 (fun _ => rfl) mk_bool (fun _ hb => hb) ?_
    intro w
    simp only [execOp, ho, e1, e2, Sem.run_bind, eqGuard_bool, Result.andThen_ok, binOp, run_equal_bool (wt_bool (Env.is_ok hE hT)), Sem.run_pure]
  | _ => simp [RM.run] at h2

theorem isNilS_eq {x : Operand} (h : isNilS x = true) : x = .const (.slice none 0 0) := by
  unfold isNilS at h
  split at h
  · rfl
  · cases h
theorem isNilP_eq {x : Operand} (h : isNilP x = true) : x = .const (.pointer none) := by
  unfold isNilP at h
  split at h
  · rfl
  · cases h
theorem run_equalIn_slice {d : Nat} {T e : TypeId} {A : Option Addr} {n c : Nat} {w : World} (h : P.underlying T = some (.slice e)) : (Op.equalIn (d + 1) T (.slice A n c) (.slice none 0 0)).run P w = .ok A.isNone w := by
  cases A <;> simp only [Op.equalIn, Sem.run_bind, run_underlying h, Result.andThen_ok, Sem.run_pure, Option.isNone_none, Option.isNone_some]
theorem run_equal_slice {T e : TypeId} {A : Option Addr} {n c : Nat} {w : World} (h : P.underlying T = some (.slice e)) : (Op.equal T (.slice A n c) (.slice none 0 0)).run P w = .ok A.isNone w :=
  run_equalIn_slice (d := 9999) h
theorem run_equalIn_ptr {d : Nat} {T e : TypeId} {A : Option Addr} {w : World} (h : P.underlying T = some (.pointer e)) : (Op.equalIn (d + 1) T (.pointer A) (.pointer none)).run P w = .ok A.isNone w := by
  cases A <;> simp only [Op.equalIn, Sem.run_bind, run_underlying h, Result.andThen_ok, Sem.run_pure, Option.isNone_none, Option.isNone_some]
theorem run_equal_ptr {T e : TypeId} {A : Option Addr} {w : World} (h : P.underlying T = some (.pointer e)) : (Op.equal T (.pointer A) (.pointer none)).run P w = .ok A.isNone w :=
  run_equalIn_ptr (d := 9999) h
theorem eqGuard_sl {op : BinOp} {T : TypeId} {x y : Operand} {A B : Option Addr} {n c n' c' : Nat} {w : World} : (eqGuard op T x y (.slice A n c) (.slice B n' c')).run P w = .ok () w := by
  cases op <;> rfl
theorem eqGuard_ptr {op : BinOp} {T : TypeId} {x y : Operand} {A B : Option Addr} {w : World} : (eqGuard op T x y (.pointer A) (.pointer B)).run P w = .ok () w := by
  cases op <;> rfl

theorem evN_ok {op : BinOp} {T U : TypeId} {x y : Operand} {t : Ty} {m : Md} {p : t.I} {fq : Blks} (hE : EnvTy P env) (ho : o.op = .binOp op T x y U) (hv : isV t (a.eval x)) (hm : m ≠ .j) (hrep : rep F w t m p (cv (a.eval x)) fq) (hS : SR e F w st V fp none') (hA : AR env gh a V) (hN : Nxt env gh e K res next)
    (h2 : (evN env o op T y t p).run C st K = some res) : wpp P o a w next := by
  unfold evN at h2
  split at h2
  · rename_i et u q
    cases hT : (env.is T (.sl et u) && isNilS y) with
    | false => rw [hT] at h2; simp [RM.run] at h2
    | true =>
    rw [hT] at h2
    simp only [Bool.and_eq_true] at hT
    obtain rfl := isNilS_eq hT.2
    have hu := (wt_sl (Env.is_ok hE hT.1)).1
    obtain ⟨A, cap, q0, q1, q2⟩ : ∃ A cap, a.eval x = .slice A (List.length (q : List u.I)) cap ∧ List.length (q : List u.I) ≤ cap ∧ (A = none → cap = 0) := by
      obtain ⟨A, cap, r0, r1, r2⟩ : ∃ A cap, cv (a.eval x) 0 = .slice A (List.length (q : List u.I)) cap ∧ List.length (q : List u.I) ≤ cap ∧ (A = none → cap = 0) := by
        cases m <;> simp only [rep] at hrep <;> first | exact absurd rfl hm | (obtain ⟨A, cap, h1, h2, h3, h4, _⟩ := hrep; exact ⟨A, cap, h1, h2, h4⟩)
      refine ⟨A, cap, ?_, r1, r2⟩
      have h2 : a.eval x = valOf (.sl et u) (cv (a.eval x)) := hv
      rw [h2]
      simpa only [valOf, Ty.agg, Bool.false_eq_true, if_false] using r0
    have e2 : a.eval (.const (.slice none 0 0)) = .slice none 0 0 := rfl
    have hnn : (List.isEmpty (q : List u.I)) = false → A.isNone = false := fun hne => by
      cases A with
      | some _ => rfl
      | none =>
        have hc0 : cap = 0 := q2 rfl
        have : q = [] := List.eq_nil_of_length_eq_zero (by omega)
        rw [this] at hne; cases hne
    cases op with
    | eql =>
      have run : ∀ w, (execOp a.eval o).run P w = .ok (.value (.bool A.isNone)) w := fun w => by
        simp only [execOp, ho, q0, e2, Sem.run_bind, eqGuard_sl, Result.andThen_ok, binOp, run_equal_slice hu, Sem.run_pure]
      simp only [RM.run] at h2
      cases hq : List.isEmpty (q : List u.I) with
      | false =>
        rw [hq] at h2
        rw [hnn hq] at run
        exact endVp (v := .bool false) hS hA hN h2 (fun _ => rfl) mk_bool (fun _ hb => hb) run
      | true =>
        rw [hq] at h2
        obtain ⟨b1, b2⟩ := both_some h2
        cases hA0 : A.isNone with
        | true => rw [hA0] at run; exact endVp (v := .bool true) hS hA hN b1 (fun _ => rfl) mk_bool (fun _ hb => hb) run
        | false => rw [hA0] at run; exact endVp (v := .bool false) hS hA hN b2 (fun _ => rfl) mk_bool (fun _ hb => hb) run
    | neq =>
      have run : ∀ w, (execOp a.eval o).run P w = .ok (.value (.bool (!A.isNone))) w := fun w => by
        simp only [execOp, ho, q0, e2, Sem.run_bind, eqGuard_sl, Result.andThen_ok, binOp, run_equal_slice hu, Sem.run_pure]
      simp only [RM.run] at h2
      cases hq : List.isEmpty (q : List u.I) with
      | false =>
        rw [hq] at h2
        rw [hnn hq] at run
        exact endVp (v := .bool true) hS hA hN h2 (fun _ => rfl) mk_bool (fun _ hb => hb) run
      | true =>
        rw [hq] at h2
        obtain ⟨b1, b2⟩ := both_some h2
        cases hA0 : A.isNone with
        | true => rw [hA0] at run; exact endVp (v := .bool false) hS hA hN b1 (fun _ => rfl) mk_bool (fun _ hb => hb) run
        | false => rw [hA0] at run; exact endVp (v := .bool true) hS hA hN b2 (fun _ => rfl) mk_bool (fun _ hb => hb) run
    | _ => simp [RM.run] at h2
  · rename_i et u q
    cases hT : (env.is T (.ptr et u) && isNilP y) with
    | false => rw [hT] at h2; simp [RM.run] at h2
    | true =>
    rw [hT] at h2
    simp only [Bool.and_eq_true] at hT
    obtain rfl := isNilP_eq hT.2
    have hu := (wt_ptr (Env.is_ok hE hT.1)).1
    have e2 : a.eval (.const (.pointer none)) = .pointer none := rfl
    obtain ⟨A, q0, q1⟩ : ∃ A, a.eval x = .pointer A ∧ A.isNone = Option.isNone (q : Option u.I) := by
      have hval : a.eval x = cv (a.eval x) 0 := by
        have h2 : a.eval x = valOf (.ptr et u) (cv (a.eval x)) := hv
        simpa only [valOf, Ty.agg, Bool.false_eq_true, if_false] using h2
      cases m with
      | j => exact absurd rfl hm
      | _ =>
        simp only [rep] at hrep
        obtain ⟨A, r0, r1⟩ := hrep
        refine ⟨A, hval.trans r0, ?_⟩
        cases q with
        | none => rw [r1]; rfl
        | some _ => obtain ⟨ad, r2, _⟩ := r1; rw [r2]; rfl
    cases op with
    | eql =>
      refine endVp (v := .bool (Option.isNone (q : Option u.I))) hS hA hN h2 (fun _ => rfl) mk_bool (fun _ hb => hb) fun w => ?_
      simp only [execOp, ho, q0, e2, Sem.run_bind, eqGuard_ptr, Result.andThen_ok, binOp, run_equal_ptr hu, Sem.run_pure, q1]
    | neq =>
      refine endVp (v := .bool (!(Option.isNone (q : Option u.I)))) hS hA hN h2 (fun _ => rfl) mk_bool (fun _ hb => hb) fun w => ?_
      simp only [execOp, ho, q0, e2, Sem.run_bind, eqGuard_ptr, Result.andThen_ok, binOp, run_equal_ptr hu, Sem.run_pure, q1]
    | _ => simp [RM.run] at h2
  · simp [RM.run] at h2

theorem run_part {u : Ty} {T : TypeId} {cs : Array Value} {off : Nat} (h : wt P u T = true) (hle : off + u.size ≤ cs.size) : (part T cs off).run P w = .ok (valOf u (fun j => cs.getD (off + j) undef)) w := by
  simp only [part, Sem.run_bind, run_isAgg h, Result.andThen_ok]
  unfold valOf
  cases ha : u.agg with
  | true =>
    simp only [if_true, Sem.run_bind, run_sizeOf h, Result.andThen_ok, Sem.run_pure]
    congr 2
    apply Array.ext
    · simp; omega
    · intro i h1 h2
      have : off + i < cs.size := by simp at h2; omega
      simp [Array.getD, this]
  | false =>
    have h1 := size_one ha
    have h2 : off < cs.size := by omega
    simp [Array.getD, h2]

/-- a value of several cells -/
theorem agg_val {t : Ty} {v : Value} (hv : isV t v) (ha : t.agg = true) : ∃ cs : Array Value, v = .agg cs ∧ cs.size = t.size ∧ ∀ j, cs.getD j undef = cv v j := by
  have h : v = .agg ((List.range t.size).map (cv v)).toArray := by
    have := hv; unfold isV valOf at this; rw [ha] at this; simpa using this
  refine ⟨_, h, by simp, fun j => ?_⟩
  have h2 : ∀ cs : Array Value, cv (.agg cs) j = cs.getD j undef := fun _ => rfl
  conv => rhs; rw [h, h2]


theorem wt_unit {T : TypeId} (h : wt P .unit T = true) : ∃ fs, P.underlying T = some (.struct fs) ∧ fs.toList = [] := by
  simp only [wt, Bool.and_eq_true] at h
  obtain ⟨_, h⟩ := h
  split at h
  · rename_i fs h2; exact ⟨fs, h2, by simpa using h⟩
  · cases h
theorem wt_pair {x y : Ty} {T : TypeId} (h : wt P (.pair x y) T = true) : ∃ fs f fl, P.underlying T = some (.struct fs) ∧ fs.toList = f :: fl ∧ f.offset = 0 ∧ wt P x f.type = true ∧ wtF P y fl x.size = true := by
  simp only [wt, Bool.and_eq_true] at h
  obtain ⟨_, h⟩ := h
  split at h
  · rename_i fs h2
    split at h
    · rename_i f fl h3
      simp only [Bool.and_eq_true] at h
      exact ⟨fs, f, fl, h2, h3, Nat.eq_of_beq_eq_true h.1, h.2.1, h.2.2⟩
    · cases h
  · cases h

theorem cells_getD (n : Nat) (c : Cells) (j : Nat) (h : j < n) : ((List.range n).map c).toArray.getD j undef = c j := by
  simp [Array.getD, h]

theorem run_eq (w : World) : ∀ (t : Ty),
    (∀ (T : TypeId) (d : Nat) (m m' : Md) (x y : t.I) (c c' : Cells) (fq fq' : Blks) (z : Bool), wt P t T = true → eqT P t T = true → eqI t x y = some z → t.deep ≤ d → m.noJ = true → m'.noJ = true → rep F w t m x c fq → rep F w t m' y c' fq' →
      (Op.equalIn (d + 1) T (valOf t c) (valOf t c')).run P w = .ok z w) ∧
    (∀ (fs : List Field) (o n d : Nat) (m m' : Md) (x y : t.I) (c c' : Cells) (fq fq' : Blks) (z : Bool), wtF P t fs o = true → eqF P t fs = true → eqI t x y = some z → t.deep ≤ d → o + t.size ≤ n → m.noJ = true → m'.noJ = true → rep F w t m x (fun j => c (o + j)) fq → rep F w t m' y (fun j => c' (o + j)) fq' →
      (Op.eqFields d ((List.range n).map c).toArray ((List.range n).map c').toArray fs).run P w = .ok z w) := by
  have part : ∀ {m : Md}, m.noJ = true → m.fst.noJ = true ∧ m.snd.noJ = true := by
    intro m hm
    cases m <;> simp only [Md.noJ, Md.fst, Md.snd, Bool.and_eq_true, Bool.false_eq_true] at hm ⊢ <;> first | exact ⟨trivial, trivial⟩ | exact hm | exact ⟨hm, hm⟩
  have nej : ∀ {m : Md}, m.noJ = true → m ≠ .j := by rintro m h rfl; cases h
  intro t
  induction t with
  | int k =>
    refine ⟨fun T d m m' x y c c' fq fq' z hw hq hz hd hm hm' hr hr' => ?_, fun fs o n d m m' x y c c' fq fq' z hw => by simp [wtF] at hw⟩
    have h1 : c 0 = .int k x := by cases m <;> simp only [rep] at hr <;> first | exact hr.1 | exact absurd rfl (nej hm)
    have h2 : c' 0 = .int k y := by cases m' <;> simp only [rep] at hr' <;> first | exact hr'.1 | exact absurd rfl (nej hm')
    simp only [eqI, Option.some.injEq] at hz
    subst hz
    simp only [valOf, Ty.agg, Bool.false_eq_true, if_false, h1, h2]
    exact run_equalIn_int w d T k k x y (wt_int hw)
  | bool =>
    refine ⟨fun T d m m' x y c c' fq fq' z hw hq hz hd hm hm' hr hr' => ?_, fun fs o n d m m' x y c c' fq fq' z hw => by simp [wtF] at hw⟩
    have h1 : c 0 = .bool x := by cases m <;> simp only [rep] at hr <;> first | exact hr | exact absurd rfl (nej hm)
    have h2 : c' 0 = .bool y := by cases m' <;> simp only [rep] at hr' <;> first | exact hr' | exact absurd rfl (nej hm')
    simp only [eqI, Option.some.injEq] at hz
    subst hz
    simp only [valOf, Ty.agg, Bool.false_eq_true, if_false, h1, h2]
    exact run_equalIn_bool (wt_bool hw)
  | str =>
    refine ⟨fun T d m m' x y c c' fq fq' z hw hq hz hd hm hm' hr hr' => ?_, fun fs o n d m m' x y c c' fq fq' z hw => by simp [wtF] at hw⟩
    have h1 : c 0 = .string ⟨(x : List UInt8).toArray⟩ := by cases m <;> simp only [rep] at hr <;> first | exact hr.1 | exact absurd rfl (nej hm)
    have h2 : c' 0 = .string ⟨(y : List UInt8).toArray⟩ := by cases m' <;> simp only [rep] at hr' <;> first | exact hr'.1 | exact absurd rfl (nej hm')
    simp only [eqI, Option.some.injEq] at hz
    subst hz
    simp only [valOf, Ty.agg, Bool.false_eq_true, if_false, h1, h2]
    rw [run_equalIn_string w d T _ _ (wt_str hw), ByteArray.toList_eq, ByteArray.toList_eq]
  | sl e t ih => exact ⟨fun T d m m' x y c c' fq fq' z hw hq hz => (by simp [eqI] at hz), fun fs o n d m m' x y c c' fq fq' z hw => by simp [wtF] at hw⟩
  | ptr e t ih => exact ⟨fun T d m m' x y c c' fq fq' z hw hq hz => (by simp [eqI] at hz), fun fs o n d m m' x y c c' fq fq' z hw => by simp [wtF] at hw⟩
  | arr n t ih => exact ⟨fun T d m m' x y c c' fq fq' z hw hq hz => (by simp [eqI] at hz), fun fs o n d m m' x y c c' fq fq' z hw => by simp [wtF] at hw⟩
  | unit =>
    refine ⟨fun T d m m' x y c c' fq fq' z hw hq hz hd hm hm' hr hr' => ?_, fun fs o n d m m' x y c c' fq fq' z hw hq hz hd hle hm hm' hr hr' => ?_⟩
    · obtain ⟨fs, h1, h2⟩ := wt_unit hw
      simp only [eqI, Option.some.injEq] at hz
      subst hz
      have hp : P.stoodInHeld T = false := by simpa [eqT] using hq
      have hf : P.fieldsOf T = fs := by simp [Program.fieldsOf, h1]
      simp only [valOf, Ty.agg, if_true]
      rw [run_equalIn_agg w d T _ _ (by rw [hf]; exact h1) hp, hf, h2]
      rfl
    · simp only [eqI, Option.some.injEq] at hz
      subst hz
      have : fs = [] := by simpa [wtF] using hw
      subst this
      rfl
  | pair a b iha ihb =>
    have hfld : ∀ (fs : List Field) (o n d : Nat) (m m' : Md) (x y : (Ty.pair a b).I) (c c' : Cells) (fq fq' : Blks) (z : Bool), wtF P (.pair a b) fs o = true → eqF P (.pair a b) fs = true → eqI (.pair a b) x y = some z → (Ty.pair a b).deep ≤ d → o + (Ty.pair a b).size ≤ n → m.noJ = true → m'.noJ = true →
        rep F w (.pair a b) m x (fun j => c (o + j)) fq → rep F w (.pair a b) m' y (fun j => c' (o + j)) fq' → (Op.eqFields d ((List.range n).map c).toArray ((List.range n).map c').toArray fs).run P w = .ok z w := by
      intro fs o n d m m' x y c c' fq fq' z hw hq hz hd hle hm hm' hr hr'
      cases fs with
      | nil => simp [wtF] at hw
      | cons f fs =>
        simp only [wtF, Bool.and_eq_true] at hw
        obtain ⟨w1, w2, w3⟩ := hw
        have w1 := Nat.eq_of_beq_eq_true w1
        simp only [eqF, Bool.and_eq_true] at hq
        obtain ⟨q1, q2, q3⟩ := hq
        simp only [eqI] at hz
        split at hz
        · rename_i p q hp hq
          simp only [Option.some.injEq] at hz
          subst hz
          simp only [Ty.deep] at hd
          simp only [Ty.size] at hle
          obtain ⟨d, rfl⟩ : ∃ d', d = d' + 1 := ⟨d - 1, by omega⟩
          obtain ⟨fa, fb, _, _, _, ra, rb⟩ := rep_pair hr
          obtain ⟨fa', fb', _, _, _, ra', rb'⟩ := rep_pair hr'
          have hsz : ((List.range n).map c).toArray.size = n := by simp
          have hsz' : ((List.range n).map c').toArray.size = n := by simp
          have e1 : valOf a (fun j => ((List.range n).map c).toArray.getD (o + j) undef) = valOf a (fun j => c (o + j)) := valOf_congr fun j hj => cells_getD n c _ (by omega)
          have e2 : valOf a (fun j => ((List.range n).map c').toArray.getD (o + j) undef) = valOf a (fun j => c' (o + j)) := valOf_congr fun j hj => cells_getD n c' _ (by omega)
          have p1 := run_part (P := P) (w := w) (cs := ((List.range n).map c).toArray) (off := o) w2 (by omega)
          have p2 := run_part (P := P) (w := w) (cs := ((List.range n).map c').toArray) (off := o) w2 (by omega)
          rw [e1] at p1
          rw [e2] at p2
          -- modes of the parts
          have hn : f.name ≠ "_" := by simpa using q1
          have hbb : ∀ j, c (o + (a.size + j)) = c ((o + a.size) + j) := fun j => by rw [Nat.add_assoc]
          have hbb' : ∀ j, c' (o + (a.size + j)) = c' ((o + a.size) + j) := fun j => by rw [Nat.add_assoc]
          have r1 := (iha.1) f.type d _ _ _ _ _ _ _ _ p w2 q2 hp (by omega) (part hm).1 (part hm').1 ra ra'
          have r2 := (ihb.2) fs (o + a.size) n (d + 1) _ _ _ _ c c' _ _ q w3 q3 hq (by omega) (by omega) (part hm).2 (part hm').2 (rep_cells (fun j _ => hbb j) rb) (rep_cells (fun j _ => hbb' j) rb')
          simp only [Op.eqFields, hn, ne_eq, not_false_eq_true, if_true, Sem.run_bind, w1, p1, p2, Result.andThen_ok, r1]
          cases p with
          | true => simpa using r2
          | false => simp
        · cases hz
    refine ⟨fun T d m m' x y c c' fq fq' z hw hq hz hd hm hm' hr hr' => ?_, hfld⟩
    obtain ⟨fs, f, fl, h1, h2, h3, h4, h5⟩ := wt_pair hw
    have hf : P.fieldsOf T = fs := by simp [Program.fieldsOf, h1]
    simp only [eqT, Bool.and_eq_true, Bool.not_eq_true', hf, h2] at hq
    obtain ⟨hp, q1, q2, q3⟩ := hq
    simp only [valOf, Ty.agg, if_true]
    rw [run_equalIn_agg w d T _ _ (by rw [hf]; exact h1) hp, hf, h2]
    exact hfld (f :: fl) 0 _ d m m' x y c c' fq fq' z (by simp only [wtF, Bool.and_eq_true, Nat.zero_add]; exact ⟨by rw [h3]; rfl, h4, h5⟩) (by simp only [eqF, Bool.and_eq_true]; exact ⟨q1, q2, q3⟩) hz hd (by omega) hm hm' (rep_cells (fun j _ => by rw [Nat.zero_add]) hr) (rep_cells (fun j _ => by rw [Nat.zero_add]) hr')


theorem evQ_ok {op : BinOp} {T U : TypeId} {x y : Operand} {t u : Ty} {m m' : Md} {p : t.I} {q : u.I} {fq fq' : Blks} (hE : EnvTy P env) (ho : o.op = .binOp op T x y U) (hv : isV t (a.eval x)) (hv' : isV u (a.eval y)) (hm : m.noJ = true) (hm' : m'.noJ = true)
    (hr : rep F w t m p (cv (a.eval x)) fq) (hr' : rep F w u m' q (cv (a.eval y)) fq') (hS : SR e F w st V fp none') (hA : AR env gh a V) (hN : Nxt env gh e K res next) (h : (evQ env o op T t u p q).run C st K = some res)
    (hall : ∀ w' : World, ∃ fq fq', rep F w' t m p (cv (a.eval x)) fq ∧ rep F w' u m' q (cv (a.eval y)) fq') : wpp P o a w next := by
  unfold evQ at h
  split at h
  · rename_i q' hc he
    simp only [Bool.and_eq_true] at hc
    obtain ⟨eu, hy⟩ := castI_some he
    subst eu
    simp only at hy
    subst hy
    have hwt := Env.is_ok hE hc.2.1
    have hq := by
      have h1 : env.ty T = some u := by
        have := hc.2.1
        unfold Env.is at this
        split at this
        · rename_i t' h1; rw [← Ty.eqb_eq this]; exact h1
        · cases this
      have := hE.eq T u hc.2.2 h1
      simp only [Bool.and_eq_true, Bool.not_eq_true'] at this
      exact this
    split at h
    · rename_i z hz
      have ha : u.agg = true := by
        have := hc.1
        cases u <;> first | rfl | cases this
      obtain ⟨cs, c1, _, _⟩ := agg_val hv ha
      obtain ⟨cs', c1', _, _⟩ := agg_val hv' ha
      have hrun : ∀ w', (Op.equalIn 10000 T (.agg cs) (.agg cs')).run P w' = .ok z w' := by
        intro w'
        obtain ⟨fq, fq', r1, r2⟩ := hall w'
        have h1 : a.eval x = valOf u (cv (a.eval x)) := hv
        have h2 : a.eval y = valOf u (cv (a.eval y)) := hv'
        have := (run_eq (P := P) (F := F) w' u).1 T 9999 m m' p q _ _ _ _ z hwt hq.1 hz (by have := Nat.le_of_ble_eq_true hq.2.2; omega) hm hm' r1 r2
        rw [← h1, ← h2, c1, c1'] at this
        exact this
      have hg : ∀ w', (eqGuard op T x y (.agg cs) (.agg cs')).run P w' = .ok () w' := fun w' => run_eqGuard_agg w' op T x y cs cs' hq.2.1
      cases op with
      | eql =>
        refine endVp (v := .bool z) hS hA hN h (fun _ => rfl) mk_bool (fun _ hb => hb) fun w' => ?_
        simp only [execOp, ho, c1, c1', Sem.run_bind, hg, Result.andThen_ok, run_eql_struct, hrun, Sem.run_pure]
      | neq =>
        refine endVp (v := .bool (!z)) hS hA hN h (fun _ => rfl) mk_bool (fun _ hb => hb) fun w' => ?_
        simp only [execOp, ho, c1, c1', Sem.run_bind, hg, Result.andThen_ok, run_neq_struct, hrun, Sem.run_pure]
      | _ => simp [RM.run] at h
    · simp [RM.run] at h
  · simp [RM.run] at h

/-- what is flat is so in any memory -/
theorem rep_any {F : Blks} {w w' : World} : ∀ {t : Ty} {m : Md} {x : t.I} {c : Cells} {fq : Blks}, t.flat = true → rep F w t m x c fq → rep F w' t m x c fq := by
  intro t
  induction t with
  | sl e t ih => intro m x c fq h; cases h
  | ptr e t ih => intro m x c fq h; cases h
  | pair a b iha ihb =>
    intro m x c fq h hr
    simp only [Ty.flat, Bool.and_eq_true] at h
    obtain ⟨fa, fb, h1, h2, h3, ra, rb⟩ := rep_pair hr
    have : ∃ fa fb : Blks, (∀ i, fa i → fq i) ∧ (∀ i, fb i → fq i) ∧ (∀ i, fa i → ¬ fb i) ∧ rep F w' a m.fst x.1 c fa ∧ rep F w' b m.snd x.2 (fun j => c (a.size + j)) fb := ⟨fa, fb, h1, h2, h3, iha h.1 ra, ihb h.2 rb⟩
    cases m with
    | j => exact rep_j
    | _ => simpa only [rep] using this
  | arr n t ih =>
    intro m x c fq h hr
    cases m with
    | j => exact rep_j
    | _ =>
      simp only [rep] at hr ⊢
      obtain ⟨hn, fs, h1, h2, r⟩ := hr
      exact ⟨hn, fs, h1, h2, fun i hi => ih h (r i hi)⟩
  | _ => intro m x c fq h hr; cases m <;> simp only [rep] at hr ⊢ <;> exact hr
theorem eqI_flat : ∀ {t : Ty} {x y : t.I} {z : Bool}, eqI t x y = some z → t.flat = true := by
  intro t
  induction t with
  | pair a b iha ihb =>
    intro x y z h
    simp only [eqI] at h
    split at h
    · rename_i p q h1 h2
      simp only [Ty.flat, iha h1, ihb h2, Bool.and_self]
    · cases h
  | _ => intro x y z h; first | rfl | simp [eqI] at h

theorem op_binOp {op : BinOp} {T U : TypeId} {x y : Operand} (hE : EnvTy P env) (ho : o.op = .binOp op T x y U) (hS : SR e F w st V fp none') (hA : AR env gh a V) (hN : Nxt env gh e K res next) (h : (evOp env o).run C st K = some res) : wpp P o a w next := by
  simp only [evOp, ho] at h
  obtain ⟨t, m, p, src, h1, hd, _⟩ := rdV_inv hS hA h
  obtain ⟨hv, hm, fq, hrep, _⟩ := hd.rep hS
  cases hnil : isNil y with
  | true => rw [hnil] at h1; exact evN_ok hE ho hv hm hrep hS hA hN h1
  | false =>
  rw [hnil] at h1
  obtain ⟨u, m2, q, src2, h2, hd2, _⟩ := rdV_inv hS hA h1
  obtain ⟨hv2, hm2, fq2, hrep2, _⟩ := hd2.rep hS
  have hQ : (match m.noJ && m2.noJ with
      | true => evQ env o op T t u p q
      | false => .fail : RM Unit).run C st K = some res → wpp P o a w next := by
    intro h3
    split at h3
    · rename_i hnj
      simp only [Bool.and_eq_true] at hnj
      have h4 := h3
      unfold evQ at h4
      split at h4
      · rename_i q' hc he
        split at h4
        · rename_i z hz
          have hfl := eqI_flat hz
          have hfl2 : u.flat = true := by obtain ⟨eu, _⟩ := castI_some he; rw [eu]; exact hfl
          exact evQ_ok hE ho hv hv2 hnj.1 hnj.2 hrep hrep2 hS hA hN h3 (fun w' => ⟨_, _, rep_any hfl hrep, rep_any hfl2 hrep2⟩)
        · simp [RM.run] at h4
      · simp [RM.run] at h4
    · simp [RM.run] at h3
  cases t with
  | int k =>
    cases u with
    | int k' =>
      obtain ⟨e1, r1⟩ := rep_int hv hm hrep
      obtain ⟨e2, r2⟩ := rep_int hv2 hm2 hrep2
      exact evI_ok ho e1 r1 e2 hS hA hN h2
    | _ => exact hQ h2
  | str =>
    cases u with
    | str => exact evS_ok ho (rep_str hv hm hrep).1 (rep_str hv2 hm2 hrep2).1 hS hA hN h2
    | _ => exact hQ h2
  | bool =>
    cases u with
    | bool => exact evL_ok hE ho (rep_bool hv hm hrep) (rep_bool hv2 hm2 hrep2) hS hA hN h2
    | _ => exact hQ h2
  | _ => cases u <;> exact hQ h2

theorem op_unOp {op : UnOp} {T : TypeId} {x : Operand} (ho : o.op = .unOp op T x) (hS : SR e F w st V fp none') (hA : AR env gh a V) (hN : Nxt env gh e K res next) (h : (evOp env o).run C st K = some res) : wpp P o a w next := by
  simp only [evOp, ho] at h
  obtain ⟨t, m, p, src, h1, hd, _⟩ := rdV_inv hS hA h
  obtain ⟨hv, hm, fq, hrep, _⟩ := hd.rep hS
  cases t with
  | int k =>
    obtain ⟨e1, r1⟩ := rep_int hv hm hrep
    cases op with
    | neg => exact endVp (v := .int k (negI k p)) hS hA hN h1 (fun _ => rfl) (mk_int (wrap_has _ _)) (fun _ hb => hb) (fun w => by simp only [execOp, ho, e1, Op.unary, Op.intArith]; rfl)
    | xor => exact endVp (v := .int k (notI k p)) hS hA hN h1 (fun _ => rfl) (mk_int (wrap_has _ _)) (fun _ hb => hb) (fun w => by simp only [execOp, ho, e1, Op.unary, Op.intBits]; rfl)
    | _ => simp [RM.run] at h1
  | bool =>
    have e1 := rep_bool hv hm hrep
    cases op with
    | not => exact endVp (v := .bool (!p)) hS hA hN h1 (fun _ => rfl) mk_bool (fun _ hb => hb) (fun w => by simp only [execOp, ho, e1, Op.unary]; rfl)
    | _ => simp [RM.run] at h1
  | _ => cases op <;> simp [RM.run] at h1

end
end Go.Trm
