import Derived.Test.YthidebepdpkgkaaTrmOps3
import Derived.Laws.Strings
set_option linter.unusedVariables false
set_option linter.unusedSimpArgs false
namespace Go.Trm

theorem wrap_has (k : IntKind) (n : Int) : k.has (k.wrap n) := by
  cases k <;> simp only [IntKind.has, IntKind.wrap, IntKind.min, IntKind.max, IntKind.bits, IntKind.signed, Bool.true_and, Bool.false_and, Bool.false_eq_true, if_true, if_false] <;>
    first
      | omega
      | (split <;> rename_i h <;> first | (have := of_decide_eq_true h; omega) | (have : ¬ _ := fun hc => h (decide_eq_true hc); omega))

theorem tmod_has {k : IntKind} {x : Int} (y : Int) (h : k.has x) : k.has (x.tmod y) := by
  have h0 : k.min ≤ 0 ∧ 0 ≤ k.max := by cases k <;> decide
  obtain ⟨h1, h2⟩ := h
  rcases Int.le_total 0 x with hx | hx
  · have h3 : 0 ≤ x.tmod y := Int.tmod_nonneg y hx
    have h4 : x.tmod y ≤ x := by
      obtain ⟨n, rfl⟩ := Int.eq_ofNat_of_zero_le hx
      have : (Int.tmod (n : Int) y).natAbs = n % y.natAbs := by rw [Int.natAbs_tmod]; rfl
      have h5 := Nat.mod_le n y.natAbs
      omega
    exact ⟨by omega, by omega⟩
  · have h3 : x.tmod y ≤ 0 := by
      have := Int.tmod_nonneg y (show 0 ≤ -x by omega)
      rw [Int.neg_tmod] at this
      omega
    have h4 : x ≤ x.tmod y := by
      have : (Int.tmod x y).natAbs = x.natAbs % y.natAbs := Int.natAbs_tmod ..
      have h5 := Nat.mod_le x.natAbs y.natAbs
      omega
    exact ⟨by omega, by omega⟩

theorem fdiv_has {k : IntKind} {x : Int} (n : Nat) (h : k.has x) : k.has (x.fdiv (2 ^ n)) := by
  have h0 : k.min ≤ 0 ∧ 0 ≤ k.max ∧ (k.min = 0 ∨ k.min ≤ -1) := by cases k <;> decide
  obtain ⟨h1, h2⟩ := h
  have hp : (0 : Int) < 2 ^ n := Int.pow_pos (by decide)
  have hf : x.fdiv (2 ^ n) = x / 2 ^ n := Int.fdiv_eq_ediv_of_nonneg _ (Int.le_of_lt hp)
  rw [hf]
  rcases Int.le_total 0 x with hx | hx
  · have h3 : 0 ≤ x / 2 ^ n := Int.ediv_nonneg hx (Int.le_of_lt hp)
    have h4 : x / 2 ^ n ≤ x := Int.ediv_le_self _ hx
    exact ⟨by omega, by omega⟩
  · have h3 : x / 2 ^ n ≤ 0 := Int.ediv_nonpos_of_nonpos_of_neg hx hp
    have h4 : x ≤ x / 2 ^ n := by
      refine Int.le_ediv_of_mul_le hp ?_
      have := Int.mul_le_mul_of_nonpos_left hx (show (1 : Int) ≤ 2 ^ n by omega)
      omega
    exact ⟨by omega, by omega⟩

section
variable {P : Program} {env : Env} {e : Entry} {F : Blks} {w : World} {st : St} {V : Nat → Value} {fp : Nat → Blks} {fl : Blks} {a : Act} {o : Oper} {R : Type} {K : Unit → St → Option R} {res : R} {next : Act → World → Prop} {Q : Exit → Act → World → Prop}

theorem run_binI {op : BinOp} {k : IntKind} {x y : Int} {t : Ty} {z : t.I} (h : binI op k x y = some ⟨t, z⟩) (hx : k.has x) (hy : op = .quo ∨ op = .rem → y ≠ 0) (T : TypeId) :
    ∃ v, (∀ w, (binOp op T (.int k x) (.int k y)).run P w = .ok v w) ∧ isV t v ∧ rep F w t .s z (cv v) none' := by
  cases op <;> simp only [binI, Option.some.injEq, reduceCtorEq] at h <;> cases h
  case add => exact ⟨.int k (k.wrap (x + y)), fun w => by simp [binOp, Op.intArith], rfl, mk_int (wrap_has _ _)⟩
  case sub => exact ⟨.int k (k.wrap (x - y)), fun w => by simp [binOp, Op.intArith], rfl, mk_int (wrap_has _ _)⟩
  case mul => exact ⟨.int k (k.wrap (x * y)), fun w => by simp [binOp, Op.intArith], rfl, mk_int (wrap_has _ _)⟩
  case quo => exact ⟨.int k (k.wrap (x.tdiv y)), fun w => by simp [binOp, Op.intDiv, hy (.inl rfl)], rfl, mk_int (wrap_has _ _)⟩
  case rem => exact ⟨.int k (x.tmod y), fun w => by simp [binOp, Op.intDiv, hy (.inr rfl)], rfl, mk_int (tmod_has _ hx)⟩
  case and => exact ⟨.int k (k.wrap (BitVec.ofInt k.bits x &&& BitVec.ofInt k.bits y).toNat), fun w => by simp only [binOp, Op.intBits, ne_eq, not_true_eq_false, if_false]; rfl, rfl, mk_int (wrap_has _ _)⟩
  case or => exact ⟨.int k (k.wrap (BitVec.ofInt k.bits x ||| BitVec.ofInt k.bits y).toNat), fun w => by simp only [binOp, Op.intBits, ne_eq, not_true_eq_false, if_false]; rfl, rfl, mk_int (wrap_has _ _)⟩
  case xor => exact ⟨.int k (k.wrap (BitVec.ofInt k.bits x ^^^ BitVec.ofInt k.bits y).toNat), fun w => by simp only [binOp, Op.intBits, ne_eq, not_true_eq_false, if_false]; rfl, rfl, mk_int (wrap_has _ _)⟩
  case andNot => exact ⟨.int k (k.wrap (BitVec.ofInt k.bits x &&& ~~~(BitVec.ofInt k.bits y)).toNat), fun w => by simp only [binOp, Op.intBits, ne_eq, not_true_eq_false, if_false]; rfl, rfl, mk_int (wrap_has _ _)⟩
  case eql => exact ⟨.bool (x == y), fun w => by simp only [binOp, Op.intCmp, ne_eq, not_true_eq_false, if_false]; rfl, rfl, mk_bool⟩
  case neq => exact ⟨.bool (x != y), fun w => by simp only [binOp, Op.intCmp, ne_eq, not_true_eq_false, if_false]; rfl, rfl, mk_bool⟩
  case lss => exact ⟨.bool (decide (x < y)), fun w => by simp only [binOp, Op.intCmp, ne_eq, not_true_eq_false, if_false]; rfl, rfl, mk_bool⟩
  case leq => exact ⟨.bool (decide (x ≤ y)), fun w => by simp only [binOp, Op.intCmp, ne_eq, not_true_eq_false, if_false]; rfl, rfl, mk_bool⟩
  case gtr => exact ⟨.bool (decide (x > y)), fun w => by simp only [binOp, Op.intCmp, ne_eq, not_true_eq_false, if_false]; rfl, rfl, mk_bool⟩
  case geq => exact ⟨.bool (decide (x ≥ y)), fun w => by simp only [binOp, Op.intCmp, ne_eq, not_true_eq_false, if_false]; rfl, rfl, mk_bool⟩

theorem toList_mk (l : List UInt8) : (⟨l.toArray⟩ : ByteArray).toList = l := by
  rw [ByteArray.toList_eq]

theorem eqGuard_int {op : BinOp} {T : TypeId} {x y : Operand} {k k' : IntKind} {p q : Int} : (eqGuard op T x y (.int k p) (.int k' q)).run P w = .ok () w := by
  cases op <;> rfl
theorem eqGuard_str {op : BinOp} {T : TypeId} {x y : Operand} {p q : ByteArray} : (eqGuard op T x y (.string p) (.string q)).run P w = .ok () w := by
  cases op <;> rfl
theorem eqGuard_bool {op : BinOp} {T : TypeId} {x y : Operand} {p q : Bool} : (eqGuard op T x y (.bool p) (.bool q)).run P w = .ok () w := by
  cases op <;> rfl

theorem shift_has {k : IntKind} {x y : Int} (h : k.has x) : k.has (shlI k x y) ∧ k.has (shrI k x y) := ⟨wrap_has _ _, fdiv_has _ h⟩

theorem run_equalIn_bool {d : Nat} {T : TypeId} {p q : Bool} (h : P.underlying T = some .bool) : (Op.equalIn (d + 1) T (.bool p) (.bool q)).run P w = .ok (p == q) w := by
  simp only [Op.equalIn, Sem.run_bind, run_underlying h, Result.andThen_ok, Sem.run_pure]
theorem run_equal_bool {T : TypeId} {p q : Bool} (h : P.underlying T = some .bool) : (Op.equal T (.bool p) (.bool q)).run P w = .ok (p == q) w :=
  run_equalIn_bool (d := 9999) h

theorem evI_ok {op : BinOp} {T U : TypeId} {x y : Operand} {k k' : IntKind} {p q : Int} (ho : o.op = .binOp op T x y U) (e1 : a.eval x = .int k p) (r1 : k.has p) (e2 : a.eval y = .int k' q) (hS : SR e F w st V fp none') (hA : AR env a V) (hN : Nxt env e K res next)
    (h2 : (evI env o op k k' p q).run st K = some res) : wpp P o a w next := by
  have hgen : ∀ v, (∀ w, (binOp op T (.int k p) (.int k' q)).run P w = .ok v w) → ∀ w, (execOp a.eval o).run P w = .ok (.value v) w := by
    intro v hb w
    simp only [execOp, ho, e1, e2, Sem.run_bind, eqGuard_int, Result.andThen_ok, hb, Sem.run_pure]
  have hother : (match kEq k k', binI op k p q with
      | true, some ⟨t, z⟩ => chkI op q (fin env o (.v t .s z))
      | _, _ => .fail : RM Unit).run st K = some res → wpp P o a w next := by
    intro h3
    split at h3
    · rename_i t z hk hb
      obtain rfl := kEq_eq hk
      have hc : (fin env o (.v t .s z)).run st K = some res ∧ (op = .quo ∨ op = .rem → q ≠ 0) := by
        unfold chkI at h3
        split at h3
        · simp only [RM.run] at h3
          cases hq : (q != 0) with
          | true => rw [hq] at h3; exact ⟨h3, fun _ => by simpa using hq⟩
          | false => rw [hq] at h3; cases h3
        · simp only [RM.run] at h3
          cases hq : (q != 0) with
          | true => rw [hq] at h3; exact ⟨h3, fun _ => by simpa using hq⟩
          | false => rw [hq] at h3; cases h3
        · rename_i hn1 hn2
          exact ⟨h3, fun hc => by rcases hc with hc | hc; exact absurd hc hn1; exact absurd hc hn2⟩
      obtain ⟨v, hr, hvv, hrp⟩ := run_binI (P := P) (F := F) (w := w) hb r1 hc.2 T
      exact endVp hS hA hN hc.1 (fun _ => hvv) hrp (fun _ hb => hb) (hgen v hr)
    · simp [RM.run] at h3
  simp only [evI] at h2
  split at h2
  · simp only [RM.run] at h2
    cases hq : decide (0 ≤ q) with
    | false => rw [hq] at h2; cases h2
    | true =>
      rw [hq] at h2
      have hq' : ¬ q < 0 := by have := of_decide_eq_true hq; omega
      refine endVp (v := .int k (shlI k p q)) hS hA hN h2 (fun _ => rfl) (mk_int (shift_has r1).1) (fun _ hb => hb) (hgen _ ?_)
      intro w
      simp only [binOp, Op.shift, hq', if_false]
      rfl
  · simp only [RM.run] at h2
    cases hq : decide (0 ≤ q) with
    | false => rw [hq] at h2; cases h2
    | true =>
      rw [hq] at h2
      have hq' : ¬ q < 0 := by have := of_decide_eq_true hq; omega
      refine endVp (v := .int k (shrI k p q)) hS hA hN h2 (fun _ => rfl) (mk_int (shift_has (y := q) r1).2) (fun _ hb => hb) (hgen _ ?_)
      intro w
      simp only [binOp, Op.shift, hq', if_false]
      rfl
  · exact hother h2

theorem evS_ok {op : BinOp} {T U : TypeId} {x y : Operand} {p q : List UInt8} (ho : o.op = .binOp op T x y U) (e1 : a.eval x = .string ⟨p.toArray⟩) (e2 : a.eval y = .string ⟨q.toArray⟩) (hS : SR e F w st V fp none') (hA : AR env a V) (hN : Nxt env e K res next)
    (h2 : (evS env o op p q).run st K = some res) : wpp P o a w next := by
  have hgen : ∀ v, (∀ w, (binOp op T (.string ⟨p.toArray⟩) (.string ⟨q.toArray⟩)).run P w = .ok v w) → ∀ w, (execOp a.eval o).run P w = .ok (.value v) w := by
    intro v hb w
    simp only [execOp, ho, e1, e2, Sem.run_bind, eqGuard_str, Result.andThen_ok, hb, Sem.run_pure]
  unfold evS at h2
  split at h2
  · simp only [RM.run] at h2
    cases hq : decide (List.length p + List.length q ≤ most) with
    | false => rw [hq] at h2; cases h2
    | true =>
      rw [hq] at h2
      have hq' := of_decide_eq_true hq
      unfold most at hq'
      refine endVp (v := .string ⟨(p ++ q).toArray⟩) hS hA hN h2 (fun _ => rfl) (mk_str (by rw [List.length_append]; omega)) (fun _ hb => hb) (hgen _ ?_)
      intro w
      have hsz : ¬ ((((⟨p.toArray⟩ : ByteArray).size + (⟨q.toArray⟩ : ByteArray).size : Nat) : Int) > IntKind.i64.max) := by
        have e3 : (⟨p.toArray⟩ : ByteArray).size = List.length p := by simp [ByteArray.size]
        have e4 : (⟨q.toArray⟩ : ByteArray).size = List.length q := by simp [ByteArray.size]
        rw [e3, e4]
        have : IntKind.i64.max = 9223372036854775807 := by decide
        omega
      have happ : (⟨p.toArray⟩ : ByteArray) ++ ⟨q.toArray⟩ = ⟨(p ++ q).toArray⟩ := by
        apply ByteArray.ext
        rw [ByteArray.data_append]
        simp
      simp only [binOp, Op.stringOp]
      rw [if_neg hsz, happ]
      rfl
  · refine endVp (v := .bool (p == q)) hS hA hN h2 (fun _ => rfl) mk_bool (fun _ hb => hb) (hgen _ ?_)
    intro w
    simp only [binOp, Op.stringOp, toList_mk]; rfl
  · refine endVp (v := .bool (!(p == q))) hS hA hN h2 (fun _ => rfl) mk_bool (fun _ hb => hb) (hgen _ ?_)
    intro w
    simp only [binOp, Op.stringOp, toList_mk]; rfl
  · simp [RM.run] at h2

theorem evL_ok {op : BinOp} {T U : TypeId} {x y : Operand} {p q : Bool} (hE : EnvTy P env) (ho : o.op = .binOp op T x y U) (e1 : a.eval x = .bool p) (e2 : a.eval y = .bool q) (hS : SR e F w st V fp none') (hA : AR env a V) (hN : Nxt env e K res next)
    (h2 : (evL env o op T p q).run st K = some res) : wpp P o a w next := by
  unfold evL at h2
  cases hT : env.is T .bool with
  | false => rw [hT] at h2; simp [RM.run] at h2
  | true =>
  rw [hT] at h2
  cases op with
  | eql =>
    refine endVp (v := .bool (p == q)) hS hA hN h2 (fun _ => rfl) mk_bool (fun _ hb => hb) ?_
    intro w
    simp only [execOp, ho, e1, e2, Sem.run_bind, eqGuard_bool, Result.andThen_ok, binOp, run_equal_bool (wt_bool (Env.is_ok hE hT)), Sem.run_pure]
  | neq =>
    refine endVp (v := .bool (!(p == q))) hS hA hN h2 (fun _ => rfl) mk_bool (fun _ hb => hb) ?_
    intro w
    simp only [execOp, ho, e1, e2, Sem.run_bind, eqGuard_bool, Result.andThen_ok, binOp, run_equal_bool (wt_bool (Env.is_ok hE hT)), Sem.run_pure]
  | _ => simp [RM.run] at h2

theorem op_binOp {op : BinOp} {T U : TypeId} {x y : Operand} (hE : EnvTy P env) (ho : o.op = .binOp op T x y U) (hS : SR e F w st V fp none') (hA : AR env a V) (hN : Nxt env e K res next) (h : (evOp env o).run st K = some res) : wpp P o a w next := by
  simp only [evOp, ho] at h
  obtain ⟨t, m, p, src, h1, hd, _⟩ := rdV_inv hS hA h
  obtain ⟨hv, hm, fq, hrep, _⟩ := hd.rep hS
  obtain ⟨u, m2, q, src2, h2, hd2, _⟩ := rdV_inv hS hA h1
  obtain ⟨hv2, hm2, fq2, hrep2, _⟩ := hd2.rep hS
  cases t with
  | int k =>
    cases u with
    | int k' =>
      obtain ⟨e1, r1⟩ := rep_int hv hm hrep
      obtain ⟨e2, r2⟩ := rep_int hv2 hm2 hrep2
      exact evI_ok ho e1 r1 e2 hS hA hN h2
    | _ => simp [RM.run] at h2
  | str =>
    cases u with
    | str => exact evS_ok ho (rep_str hv hm hrep).1 (rep_str hv2 hm2 hrep2).1 hS hA hN h2
    | _ => simp [RM.run] at h2
  | bool =>
    cases u with
    | bool => exact evL_ok hE ho (rep_bool hv hm hrep) (rep_bool hv2 hm2 hrep2) hS hA hN h2
    | _ => simp [RM.run] at h2
  | _ => cases u <;> simp [RM.run] at h2

theorem op_unOp {op : UnOp} {T : TypeId} {x : Operand} (ho : o.op = .unOp op T x) (hS : SR e F w st V fp none') (hA : AR env a V) (hN : Nxt env e K res next) (h : (evOp env o).run st K = some res) : wpp P o a w next := by
  simp only [evOp, ho] at h
  obtain ⟨t, m, p, src, h1, hd, _⟩ := rdV_inv hS hA h
  obtain ⟨hv, hm, fq, hrep, _⟩ := hd.rep hS
  cases t with
  | int k =>
    obtain ⟨e1, r1⟩ := rep_int hv hm hrep
    cases op with
    | neg => exact endVp (v := .int k (negI k p)) hS hA hN h1 (fun _ => rfl) (mk_int (wrap_has _ _)) (fun _ hb => hb) (fun w => by simp only [execOp, ho, e1, Op.unary, Op.intArith]; rfl)
    | xor => exact endVp (v := .int k (notI k p)) hS hA hN h1 (fun _ => rfl) (mk_int (wrap_has _ _)) (fun _ hb => hb) (fun w => by simp only [execOp, ho, e1, Op.unary, Op.intBits]; rfl)
    | _ => simp [RM.run] at h1
  | bool =>
    have e1 := rep_bool hv hm hrep
    cases op with
    | not => exact endVp (v := .bool (!p)) hS hA hN h1 (fun _ => rfl) mk_bool (fun _ hb => hb) (fun w => by simp only [execOp, ho, e1, Op.unary]; rfl)
    | _ => simp [RM.run] at h1
  | _ => cases op <;> simp [RM.run] at h1

end
end Go.Trm
