import Derived.Test.YtaaichbahlpjlaaDoorTrmGls
import Derived.Below
import Derived.Lib.Split
import Derived.Lib.FieldsP
import Derived.Lib.TrimUEq
import Derived.Lib.ParseIntB
import Derived.Lib.IndexLaws
import Derived.Laws.RangeAny
import Derived.Laws.AppendOwn
import Derived.Shelf.Small.Strs
import Derived.Shelf.Pu.ParseUintPublic10
import Derived.Shelf.Strings.Split
import Derived.Shelf.Strings.FieldsFuncAny
import Derived.Test.YtaaichbahlpjlaaDoorProg
import Derived.WalkKit
import Derived.WalkSpells
import Derived.WalkLawsBesides
import Derived.Deep.Upon
set_option linter.unusedVariables false
set_option linter.unusedSimpArgs false
namespace Go.Trm
open Go.RowKit
theorem zUma {P : Program} {f : FuncId} {c : CSpec} (hfn : ∃ fn code, P.funcs[f]? = some fn ∧ (fn.name == "runtime.NumGoroutine") = false ∧ fn.body = some code) (b0 : DB c.ins) (hb : ∀ F w vs fb, BackR F w c.ins b0 vs fb)
  (h : ∀ (F : Blks) (w : World) (d : DI c.ins) (vs : List Value) (fps : Nat → Blks) (R : Type) (K : DR c.outs → DB c.ins → Option R) (Kp : PI c.pan → DB c.ins → Option R) (res : R), GlOk P F w → (∀ b, F b → b < w.heap.size) → ArgsR F w c.ins d vs fps → c.fn d K Kp = some res →
   Calls P f vs.toArray w fun e w' => ∃ v ro, ∃ fo : Blks, e = .returned v ∧ K ro b0 = some res ∧ ResR F w' v fo (resS c.outs ro) ∧ Below w.heap.size w w' ∧ ∀ b, fo b → w.heap.size ≤ b ∧ b < w'.heap.size) : Holds P f c := by
 refine ⟨hfn, fun F w d vs fps R K Kp res hg hF hd hfp ha hc => (h F w d vs fps R K Kp res hg hF ha hc).mono fun e w' hp => ?_⟩
 obtain ⟨v, ro, fo, rfl, h1, h2, h3, h4⟩ := hp
 refine ⟨b0, F, fo, fun _ _ => False, .inl ⟨v, ro, rfl, h1, h2⟩, fun _ h => h, ⟨⟨h3.os, h3.tape, h3.output⟩, h3.size⟩, fun b hb _ => h3.block b hb, ⟨⟨fun _ _ _ _ h => h.elim⟩, fun _ _ h => h.elim, hb _ _ _ _⟩, fun b hb => ?_, fun b hb => ⟨Nat.lt_of_lt_of_le (hF b hb) h3.size, .inl hb⟩⟩
 rcases hb with hb | ⟨_, hb⟩
 ·obtain ⟨h5, h6⟩ := h4 b hb
  exact ⟨fun hc => by have := hF b hc; omega, h6, .inr h5⟩
 ·exact hb.elim
theorem zzsa {F : Blks} {w' : World} {A cap : Nat} {cs : Array Value} {el : TypeId} {z : List (List UInt8)} {e : TypeId} (hn : w'.heap[A]? = some (.cells cs el (0, 0))) (hs : cs.size = cap) (hc : cap ≤ 2 ^ 63 - 1) (hl : z.length ≤ cap) (hz : ∀ i, i < z.length → cs.getD i undef = .string ⟨(z.getD i []).toArray⟩ ∧ (z.getD i []).length ≤ 2 ^ 63 - 1) :
  ResR F w' (.slice (some ⟨A, 0, none⟩) z.length cap) (fun b => b = A ∨ ∃ i, (fun (_ : Nat) (_ : Nat) => False) i b) (.v (.sl e .str) (.o .s) z) := by
 refine ⟨fun _ => zRra, ?_⟩
 refine zYqa (t := .str) (z := z) (fs := fun _ _ => False) hn rfl (by simp only [Ty.size, Nat.mul_one]; exact hs) hl hc ⟨fun _ _ _ _ hb => hb.elim⟩ (fun _ _ hb => hb.elim) fun i hi => ?_
 obtain ⟨h1, h2⟩ := hz i hi
 simp only [rep, Ty.size, Nat.mul_one, Nat.add_zero]
 exact ⟨h1, h2⟩
def zIba (c : UInt8) : List UInt8 → List (List UInt8)
 | [] => [[]]
 | b :: l => if b = c then [] :: zIba c l else match zIba c l with
  | [] => [[b]]
  | x :: r => (b :: x) :: r
theorem zDoa (c : UInt8) (l : List UInt8) : zIba c l ≠ [] := by
 cases l with
 | nil => simp [zIba]
 | cons b l => unfold zIba; split <;> (try split) <;> simp
theorem zQqa (c : UInt8) : ∀ (l : List UInt8), (∀ b ∈ l, b ≠ c) → zIba c l = [l]
 | [], _ => rfl
 | b :: l, h => by
  unfold zIba
  rw [if_neg (h b List.mem_cons_self), zQqa c l fun x hx => h x (List.mem_cons_of_mem _ hx)]
theorem zRqa (c : UInt8) : ∀ (x r : List UInt8), (∀ b ∈ x, b ≠ c) → zIba c (x ++ c :: r) = x :: zIba c r
 | [], r, _ => by simp [zIba]
 | b :: x, r, h => by
  rw [List.cons_append]
  conv => lhs; unfold zIba
  rw [if_neg (h b List.mem_cons_self), zRqa c x r fun y hy => h y (List.mem_cons_of_mem _ hy)]
theorem zMta (c : UInt8) : ∀ (n : Nat) (l : List UInt8), l.length ≤ n → Lib.splitK [c] 0 (Lib.count l [c]) l = zIba c l := by
 intro n
 induction n with
 | zero =>
  intro l hl
  obtain rfl : l = [] := List.eq_nil_of_length_eq_zero (by omega)
  have h1 : Lib.index [] [c] = -1 := by rw [Lib.index_one]; rfl
  rw [Lib.count_miss h1]
  rfl
 | succ n ih =>
  intro l hl
  have hi := Lib.index_one l c
  have hge := Lib.indexByte_ge l c
  by_cases hm : Lib.indexByte l c = -1
  ·rw [Lib.count_miss (hi.trans hm)]
   have hno := Lib.indexByte_none hm
   rw [zQqa c l fun b hb hc => ?_]
   ·rfl
   ·subst hc
    obtain ⟨k, hk, he⟩ := List.mem_iff_getElem.1 hb
    exact hno k (by rw [List.getElem?_eq_getElem hk, he])
  ·obtain ⟨i, hii⟩ : ∃ i : Nat, Lib.indexByte l c = i := ⟨(Lib.indexByte l c).toNat, by omega⟩
   obtain ⟨h1, h2⟩ := Lib.indexByte_some hii
   have hlt : i < l.length := (List.getElem?_eq_some_iff.1 h1).1
   have hsp : l = l.take i ++ c :: l.drop (i + 1) := by
    have h3 := List.take_append_drop i l
    rw [List.drop_eq_getElem_cons hlt, (List.getElem?_eq_some_iff.1 h1).2] at h3
    exact h3.symm
   rw [Lib.count_hit (by simp) (hi.trans hii), Nat.add_comm]
   unfold Lib.splitK
   rw [hi, hii, if_neg (by simp only [beq_iff_eq]; omega)]
   simp only [Int.toNat_natCast, Nat.add_zero, List.length_cons, List.length_nil, Nat.zero_add]
   rw [ih _ (by rw [List.length_drop]; omega)]
   conv => rhs; rw [hsp]
   rw [zRqa]
   intro b hb hc
   subst hc
   obtain ⟨k, hk, he⟩ := List.mem_iff_getElem.1 hb
   rw [List.length_take] at hk
   refine h2 k (by omega) ?_
   rw [List.getElem_take] at he
   rw [List.getElem?_eq_getElem (by omega), he]
theorem zrsa (s : ByteArray) (c : UInt8) : (Lib.splitB ⟨#[c]⟩ 0 (Lib.countB s ⟨#[c]⟩) s).map (·.data.toList) = zIba c s.data.toList := by
 rw [Lib.splitB_data]
 exact zMta c _ _ (Nat.le_refl _)
def zeba : List UInt8 → List UInt8 → List (List UInt8)
 | w, [] => if w = [] then [] else [w]
 | w, b :: l => if b = 32 then (if w = [] then zeba [] l else w :: zeba [] l) else zeba (w ++ [b]) l
theorem zZma : ∀ (x w l : List UInt8), (∀ b ∈ x, b ≠ 32) → zeba w (x ++ l) = zeba (w ++ x) l
 | [], w, l, _ => by simp
 | b :: x, w, l, h => by
  rw [List.cons_append]
  conv => lhs; unfold zeba
  rw [if_neg (h b List.mem_cons_self), zZma x _ l fun y hy => h y (List.mem_cons_of_mem _ hy)]
  simp
theorem zKqa (s : ByteArray) (pos : Nat) (h : pos < s.size) : 1 ≤ (Utf8.decode s pos).2 ∧ pos + (Utf8.decode s pos).2 ≤ s.size ∧
  ((s.data.toList.getD pos 0 = 32 ∧ (Utf8.decode s pos).1 = 32 ∧ (Utf8.decode s pos).2 = 1) ∨ ((Utf8.decode s pos).1 ≠ 32 ∧ ∀ j, j < (Utf8.decode s pos).2 → s.data.toList.getD (pos + j) 0 ≠ 32)) := by
 have hg : ∀ k, s.data.toList.getD k 0 = s.get! k := fun k => by
  show _ = s.data[k]!
  rw [getElem!_def, List.getD_eq_getElem?_getD, Array.getElem?_toList]
  cases s.data[k]? <;> rfl
 simp only [hg]
 unfold Utf8.decode
 simp only [Nat.add_zero]
 have hk : ∀ b : UInt8, b = 32 ↔ b.toNat = 32 := fun b => by
  constructor
  ·rintro rfl; rfl
  ·intro h; exact UInt8.toNat_inj.1 (by rw [h]; rfl)
 have hc : ∀ k, (decide (pos + k < s.size) && (s.get! (pos + k)).toNat / 64 == 2) = true → pos + k < s.size ∧ s.get! (pos + k) ≠ 32 := fun k hk' => by
  simp only [Bool.and_eq_true, decide_eq_true_eq, beq_iff_eq] at hk'
  refine ⟨hk'.1, fun hc => ?_⟩
  rw [hc] at hk'
  exact absurd hk'.2 (by decide)
 by_cases h0 : (s.get! pos).toNat < 128
 ·rw [if_pos h0]
  refine ⟨Nat.le_refl _, by omega, ?_⟩
  by_cases h32 : s.get! pos = 32
  ·exact .inl ⟨h32, (hk _).1 h32, rfl⟩
  ·refine .inr ⟨fun hc => h32 ((hk _).2 hc), fun j hj => ?_⟩
   obtain rfl : j = 0 := by simp only at hj; omega
   exact h32
 rw [if_neg h0]
 have hn0 : s.get! pos ≠ 32 := fun hc => h0 (by rw [hc]; decide)
 have h1 : 1 ≤ ((Utf8.runeError, 1) : Nat × Nat).2 ∧ pos + ((Utf8.runeError, 1) : Nat × Nat).2 ≤ s.size ∧ ((s.get! pos = 32 ∧ ((Utf8.runeError, 1) : Nat × Nat).1 = 32 ∧ ((Utf8.runeError, 1) : Nat × Nat).2 = 1) ∨ (((Utf8.runeError, 1) : Nat × Nat).1 ≠ 32 ∧ ∀ j, j < ((Utf8.runeError, 1) : Nat × Nat).2 → s.get! (pos + j) ≠ 32)) := by
  refine ⟨Nat.le_refl _, by simp only; omega, .inr ⟨by show Utf8.runeError ≠ 32; decide, fun j hj => ?_⟩⟩
  obtain rfl : j = 0 := by simp only at hj; omega
  exact hn0
 split
 ·rename_i hb
  simp only [Bool.and_eq_true] at hb
  obtain ⟨c1, c2⟩ := hc 1 (by simpa using hb.2)
  split
  ·rename_i hz
   refine ⟨by simp only; omega, by simp only; omega, .inr ⟨by simp only; omega, fun j hj => ?_⟩⟩
   simp only at hj
   rcases j with _ | _ | j
   ·exact hn0
   ·exact c2
   ·omega
  ·exact h1
 split
 ·rename_i hb
  simp only [Bool.and_eq_true] at hb
  obtain ⟨c1, c2⟩ := hc 1 (by simpa using hb.1.2)
  obtain ⟨c3, c4⟩ := hc 2 (by simpa using hb.2)
  split
  ·rename_i hz
   simp only [Bool.and_eq_true, decide_eq_true_eq] at hz
   refine ⟨by simp only; omega, by simp only; omega, .inr ⟨by simp only; omega, fun j hj => ?_⟩⟩
   simp only at hj
   rcases j with _ | _ | _ | j
   ·exact hn0
   ·exact c2
   ·exact c4
   ·omega
  ·exact h1
 split
 ·rename_i hb
  simp only [Bool.and_eq_true] at hb
  obtain ⟨c1, c2⟩ := hc 1 (by simpa using hb.1.1.2)
  obtain ⟨c3, c4⟩ := hc 2 (by simpa using hb.1.2)
  obtain ⟨c5, c6⟩ := hc 3 (by simpa using hb.2)
  split
  ·rename_i hz
   simp only [Bool.and_eq_true, decide_eq_true_eq] at hz
   refine ⟨by simp only; omega, by simp only; omega, .inr ⟨by simp only; omega, fun j hj => ?_⟩⟩
   simp only at hj
   rcases j with _ | _ | _ | _ | j
   ·exact hn0
   ·exact c2
   ·exact c4
   ·exact c6
   ·omega
  ·exact h1
 ·exact h1
theorem zvua {L : List UInt8} {p : Nat} (h : p < L.length) : L.drop p = L.getD p 0 :: L.drop (p + 1) := by
 rw [List.drop_eq_getElem_cons h, List.getD_eq_getElem?_getD, List.getElem?_eq_getElem h, Option.getD_some]
theorem zota (s : ByteArray) (a b : Nat) : (s.extract a b).data.toList = (s.data.toList.take b).drop a := by
 rw [Lib.extract_data, List.drop_take]
theorem zGra (s : ByteArray) : ∀ (f pos : Nat) (st : Option Nat) (acc : List (Nat × Nat)), s.size ≤ pos + f → pos ≤ s.size → (∀ a, st = some a → a < pos) →
  (Lib.closeSpans s (Lib.spansFromP (fun r => r == 32) s f pos st acc)).map (fun x => (s.extract x.1 x.2).data.toList) =
   acc.map (fun x => (s.extract x.1 x.2).data.toList) ++ zeba (match st with | none => [] | some a => (s.data.toList.take pos).drop a) (s.data.toList.drop pos) := by
 have hsz : s.data.toList.length = s.size := Array.length_toList
 have hend : ∀ (st : Option Nat) (acc : List (Nat × Nat)) (pos : Nat), pos = s.size → (∀ a, st = some a → a < pos) → (Lib.closeSpans s (acc, st)).map (fun x => (s.extract x.1 x.2).data.toList) =
   acc.map (fun x => (s.extract x.1 x.2).data.toList) ++ zeba (match st with | none => [] | some a => (s.data.toList.take pos).drop a) (s.data.toList.drop pos) := by
  intro st acc pos hp hst
  subst hp
  rw [← hsz, List.drop_length, List.take_length]
  cases st with
  | none => simp [Lib.closeSpans, zeba]
  | some a =>
   have := hst a rfl
   have hne : s.data.toList.drop a ≠ [] := by
    intro hc
    have := congrArg List.length hc
    rw [List.length_drop] at this
    simp only [List.length_nil] at this
    omega
   simp only [Lib.closeSpans, List.map_append, List.map_cons, List.map_nil, zeba]
   rw [if_neg hne, zota, ← hsz, List.take_length]
 intro f
 induction f with
 | zero => intro pos st acc h1 h2 h3; exact hend st acc pos (by omega) h3
 | succ f ih =>
  intro pos st acc h1 h2 h3
  unfold Lib.spansFromP
  by_cases hp : pos < s.size
  case neg => rw [if_neg hp]; exact hend st acc pos (by omega) h3
  rw [if_pos hp]
  obtain ⟨d1, d2, d3⟩ := zKqa s pos hp
  generalize Utf8.decode s pos = q at d1 d2 d3
  obtain ⟨r, n⟩ := q
  simp only at d1 d2 d3 ⊢
  rcases d3 with ⟨e1, e2, e3⟩ | ⟨e1, e2⟩
  ·subst e2; subst e3
   rw [if_pos (by rfl), zvua (by omega), e1]
   cases st with
   | none =>
    simp only
    rw [ih _ _ _ (by omega) (by omega) (fun a ha => by cases ha)]
    simp [zeba]
   | some a =>
    have := h3 a rfl
    simp only
    rw [ih _ _ _ (by omega) (by omega) (fun a ha => by cases ha)]
    have hne : (s.data.toList.take pos).drop a ≠ [] := by
     intro hc
     have := congrArg List.length hc
     rw [List.length_drop, List.length_take] at this
     simp only [List.length_nil] at this
     omega
    conv => rhs; unfold zeba
    rw [if_pos rfl, if_neg hne, ← zota]
    simp
  ·rw [if_neg (by simpa using e1)]
   have hx : ∀ b ∈ (s.data.toList.drop pos).take n, b ≠ 32 := by
    intro b hb hc
    obtain ⟨k, hk, he⟩ := List.mem_iff_getElem.1 hb
    rw [List.length_take, List.length_drop] at hk
    rw [List.getElem_take, List.getElem_drop] at he
    refine e2 k (by omega) ?_
    rw [List.getD_eq_getElem?_getD, List.getElem?_eq_getElem (by omega), Option.getD_some, he, hc]
   have hspl : s.data.toList.drop pos = (s.data.toList.drop pos).take n ++ s.data.toList.drop (pos + n) := by
    rw [← List.drop_drop, List.take_append_drop]
   cases st with
   | none =>
    simp only
    rw [ih _ _ _ (by omega) (by omega) (fun a ha => by cases ha; omega), hspl, zZma _ _ _ hx]
    rw [List.nil_append, List.take_drop]
   | some a =>
    have := h3 a rfl
    simp only
    rw [ih _ _ _ (by omega) (by omega) (fun b hb => by cases hb; omega), hspl, zZma _ _ _ hx]
    congr 2
    have h5 : s.data.toList.take (pos + n) = s.data.toList.take pos ++ (s.data.toList.drop pos).take n := by
     rw [List.take_add]
    rw [h5]
    dsimp only
    rw [List.drop_append_of_le_length (by rw [List.length_take]; omega)]
theorem zHqa (s : ByteArray) : (Lib.goFieldsP (fun r => r == 32) s).map (·.data.toList) = zeba [] s.data.toList := by
 have := zGra s s.size 0 none [] (by omega) (by omega) nofun
 simp only [List.map_nil, List.nil_append, List.drop_zero] at this
 rw [← this]
 unfold Lib.goFieldsP Lib.spansOfP
 rw [List.map_map]
 rfl
def zdka (l : List UInt8) : Int × Bool := match Lib.parseUintB 64 l with
 | .ok n => ((n : Int), false)
 | .«syntax» => (0, true)
 | .range => (18446744073709551615, true)
end Go.Trm
namespace Go.Proofs
open Go.Shelf Go.RowKit
def Tryd.lays137_ren : Go.Shelf.Ren := ⟨fun | 137 => 58 | 217 => 75 | 266 => 84 | n => n, fun | 9 => 9 | 5 => 5 | 3 => 3 | n => n, fun | n => n⟩
theorem Tryd.lays137 : Go.Proofs.Lays.n137 Tryd.prog Tryd.lays137_ren := {
 mixed := by kernel_rfl
 f137 := Tryd.func58.trans (congrArg some (by kernel_rfl))
 f217 := Tryd.func75.trans (congrArg some (by kernel_rfl))
 f266 := Tryd.func84.trans (congrArg some (by kernel_rfl))
 t3 := Tryd.underlying3
 a3 := Tryd.isAgg3
 z3 := Tryd.sizeOf3
 v3 := Tryd.zeroValue3
 t5 := Tryd.underlying5
 a5 := Tryd.isAgg5
 z5 := Tryd.sizeOf5
 v5 := Tryd.zeroValue5
 t9 := Tryd.underlying9
 a9 := Tryd.isAgg9
 z9 := Tryd.sizeOf9
 v9 := Tryd.zeroValue9 }
theorem Tryd.strings_IndexByte (s : ByteArray) (c : Int) (w : World) :
  Calls Tryd.prog 58 #[.string s, .int .u8 c] w fun e w' => e = .returned (.int .i64 (Lib.indexByte s.data.toList c.toNat.toUInt8)) ∧ w' = w := Any.strings_IndexByte Tryd.lays137 s c w
def Tryd.laysPu14_ren : Go.Shelf.Ren := ⟨fun | 14 => 76 | 16 => 85 | 17 => 86 | 19 => 95 | 20 => 96 | 21 => 97 | 22 => 98 | 23 => 99 | 24 => 100 | 25 => 106 | 27 => 68 | 26 => 107 | 28 => 78 | 29 => 89 | 30 => 90 | 31 => 91 | 32 => 92 | 33 => 93 | 35 => 102 | 34 => 101 | 36 => 103 | 37 => 104 | 38 => 105 | 39 => 108 | 40 => 109 | n => n, fun | 9 => 9 | 3 => 3 | 22 => 36 | 24 => 61 | 25 => 114 | 4 => 4 | 34 => 143 | 5 => 5 | 36 => 107 | 37 => 31 | 0 => 0 | 39 => 145 | 21 => 21 | 44 => 157 | 47 => 96 | 50 => 162 | 48 => 160 | 2 => 2 | 52 => 133 | 55 => 136 | 59 => 151 | 60 => 116 | 20 => 20 | 61 => 152 | 65 => 163 | 66 => 164 | 67 => 64 | n => n, fun | 0 => 6 | 1 => 7 | 2 => 5 | 3 => 8 | 4 => 9 | n => n⟩
theorem Tryd.laysPu14 : Go.Proofs.LaysPu.n14 Tryd.prog Tryd.laysPu14_ren := {
 mixed := by kernel_rfl
 f14 := Tryd.func76.trans (congrArg some (by kernel_rfl))
 f16 := Tryd.func85.trans (congrArg some (by kernel_rfl))
 f17 := Tryd.func86.trans (congrArg some (by kernel_rfl))
 f19 := Tryd.func95.trans (congrArg some (by kernel_rfl))
 f20 := Tryd.func96.trans (congrArg some (by kernel_rfl))
 f21 := Tryd.func97.trans (congrArg some (by kernel_rfl))
 f22 := Tryd.func98.trans (congrArg some (by kernel_rfl))
 f23 := Tryd.func99.trans (congrArg some (by kernel_rfl))
 f24 := Tryd.func100.trans (congrArg some (by kernel_rfl))
 f25 := Tryd.func106.trans (congrArg some (by kernel_rfl))
 f26 := Tryd.func107.trans (congrArg some (by kernel_rfl))
 f27 := Tryd.func68.trans (congrArg some (by kernel_rfl))
 f28 := Tryd.func78.trans (congrArg some (by kernel_rfl))
 f29 := Tryd.func89.trans (congrArg some (by kernel_rfl))
 f30 := Tryd.func90.trans (congrArg some (by kernel_rfl))
 f31 := Tryd.func91.trans (congrArg some (by kernel_rfl))
 f32 := Tryd.func92.trans (congrArg some (by kernel_rfl))
 f33 := Tryd.func93.trans (congrArg some (by kernel_rfl))
 f34 := Tryd.func101.trans (congrArg some (by kernel_rfl))
 f35 := Tryd.func102.trans (congrArg some (by kernel_rfl))
 f36 := Tryd.func103.trans (congrArg some (by kernel_rfl))
 f37 := Tryd.func104.trans (congrArg some (by kernel_rfl))
 f38 := Tryd.func105.trans (congrArg some (by kernel_rfl))
 f39 := Tryd.func108.trans (congrArg some (by kernel_rfl))
 f40 := Tryd.func109.trans (congrArg some (by kernel_rfl))
 t0 := Tryd.underlying0
 a0 := Tryd.isAgg0
 z0 := Tryd.sizeOf0
 v0 := Tryd.zeroValue0
 i0 := by kernel_rfl
 t2 := Tryd.underlying2
 a2 := Tryd.isAgg2
 z2 := Tryd.sizeOf2
 v2 := Tryd.zeroValue2
 i2 := by kernel_rfl
 t3 := Tryd.underlying3
 a3 := Tryd.isAgg3
 z3 := Tryd.sizeOf3
 v3 := Tryd.zeroValue3
 i3 := by kernel_rfl
 t4 := Tryd.underlying4
 a4 := Tryd.isAgg4
 z4 := Tryd.sizeOf4
 v4 := Tryd.zeroValue4
 i4 := by kernel_rfl
 t5 := Tryd.underlying5
 a5 := Tryd.isAgg5
 z5 := Tryd.sizeOf5
 v5 := Tryd.zeroValue5
 i5 := by kernel_rfl
 t9 := Tryd.underlying9
 a9 := Tryd.isAgg9
 z9 := Tryd.sizeOf9
 v9 := Tryd.zeroValue9
 i9 := by kernel_rfl
 t20 := Tryd.underlying20
 a20 := Tryd.isAgg20
 z20 := Tryd.sizeOf20
 v20 := Tryd.zeroValue20
 i20 := by kernel_rfl
 t21 := Tryd.underlying21
 a21 := Tryd.isAgg21
 z21 := Tryd.sizeOf21
 v21 := Tryd.zeroValue21
 i21 := by kernel_rfl
 t22 := Tryd.underlying36
 a22 := Tryd.isAgg36
 z22 := Tryd.sizeOf36
 v22 := Tryd.zeroValue36
 i22 := by kernel_rfl
 t24 := Tryd.underlying61
 a24 := Tryd.isAgg61
 z24 := Tryd.sizeOf61
 v24 := Tryd.zeroValue61
 i24 := by kernel_rfl
 t25 := Tryd.underlying114
 a25 := Tryd.isAgg114
 z25 := Tryd.sizeOf114
 v25 := Tryd.zeroValue114
 i25 := by kernel_rfl
 t34 := Tryd.underlying143
 a34 := Tryd.isAgg143
 z34 := Tryd.sizeOf143
 v34 := Tryd.zeroValue143
 i34 := by kernel_rfl
 c34 := by kernel_rfl
 t36 := Tryd.underlying107
 a36 := Tryd.isAgg107
 z36 := Tryd.sizeOf107
 v36 := Tryd.zeroValue107
 i36 := by kernel_rfl
 t37 := Tryd.underlying31
 a37 := Tryd.isAgg31
 z37 := Tryd.sizeOf31
 v37 := Tryd.zeroValue31
 i37 := by kernel_rfl
 t39 := Tryd.underlying145
 a39 := Tryd.isAgg145
 z39 := Tryd.sizeOf145
 v39 := Tryd.zeroValue145
 i39 := by kernel_rfl
 t44 := Tryd.underlying157
 a44 := Tryd.isAgg157
 z44 := Tryd.sizeOf157
 v44 := Tryd.zeroValue157
 i44 := by kernel_rfl
 t47 := Tryd.underlying96
 a47 := Tryd.isAgg96
 z47 := Tryd.sizeOf96
 v47 := Tryd.zeroValue96
 i47 := by kernel_rfl
 t48 := Tryd.underlying160
 a48 := Tryd.isAgg160
 z48 := Tryd.sizeOf160
 v48 := Tryd.zeroValue160
 i48 := by kernel_rfl
 t50 := Tryd.underlying162
 a50 := Tryd.isAgg162
 z50 := Tryd.sizeOf162
 v50 := Tryd.zeroValue162
 i50 := by kernel_rfl
 t52 := Tryd.underlying133
 a52 := Tryd.isAgg133
 z52 := Tryd.sizeOf133
 v52 := Tryd.zeroValue133
 i52 := by kernel_rfl
 t55 := Tryd.underlying136
 a55 := Tryd.isAgg136
 z55 := Tryd.sizeOf136
 v55 := Tryd.zeroValue136
 i55 := by kernel_rfl
 t59 := Tryd.underlying151
 a59 := Tryd.isAgg151
 z59 := Tryd.sizeOf151
 v59 := Tryd.zeroValue151
 i59 := by kernel_rfl
 t60 := Tryd.underlying116
 a60 := Tryd.isAgg116
 z60 := Tryd.sizeOf116
 v60 := Tryd.zeroValue116
 i60 := by kernel_rfl
 t61 := Tryd.underlying152
 a61 := Tryd.isAgg152
 z61 := Tryd.sizeOf152
 t65 := Tryd.underlying163
 a65 := Tryd.isAgg163
 z65 := Tryd.sizeOf163
 v65 := Tryd.zeroValue163
 i65 := by kernel_rfl
 t66 := Tryd.underlying164
 a66 := Tryd.isAgg164
 z66 := Tryd.sizeOf164
 v66 := Tryd.zeroValue164
 i66 := by kernel_rfl
 t67 := Tryd.underlying64
 a67 := Tryd.isAgg64
 z67 := Tryd.sizeOf64
 v67 := Tryd.zeroValue64
 i67 := by kernel_rfl
 g0 := by kernel_rfl
 m0 := by kernel_rfl
 g1 := by kernel_rfl
 m1 := by kernel_rfl
 g2 := by kernel_rfl
 m2 := by kernel_rfl
 g3 := by kernel_rfl
 m3 := by kernel_rfl
 g4 := by kernel_rfl
 m4 := by kernel_rfl }
theorem Tryd.strconv_ParseUint_10_at64_ok (s : ByteArray) (hmax : s.size ≤ 9223372036854775806) (u : Nat) (h : Lib.parseUintB 64 s.data.toList = .ok u) (w : World) :
  Calls Tryd.prog 76 #[.string s, .int .i64 10, .int .i64 64] w fun e w' => e = .returned (.tuple #[.int .u64 u, .nilIface]) ∧ (w' = w ∨ w' = Lib.bytesWorld w 5 s) := Any.strconv_ParseUint_10_at64_ok Tryd.laysPu14 s hmax u h w
theorem Tryd.strconv_ParseUint_10_at64_syntax (s : ByteArray) (hlim : s.size ≤ 281474976710656) (h : Lib.parseUintB 64 s.data.toList = .«syntax») (ev : Value) (w : World) (hv : w.cell? ⟨6, 0, none⟩ = some ev) (hev : ev = .nilIface ∨ ∃ te pe, ev = .iface te pe) :
  Calls Tryd.prog 76 #[.string s, .int .i64 10, .int .i64 64] w fun e w' => ∃ N, e = .returned (.tuple #[.int .u64 0, .iface 145 (.pointer (some ⟨N, 0, none⟩))]) ∧ w.heap.size ≤ N ∧ w'.heap[N]? = some (.cells #[.string ⟨#[80, 97, 114, 115, 101, 85, 105, 110, 116]⟩, .string s, ev] 157 (0, 0)) ∧ Below w.heap.size w w' := Any.strconv_ParseUint_10_at64_syntax Tryd.laysPu14 s hlim h ev w hv hev
theorem Tryd.strconv_ParseUint_10_at64_range (s : ByteArray) (hlim : s.size ≤ 281474976710656) (h : Lib.parseUintB 64 s.data.toList = .range) (ev : Value) (w : World) (hv : w.cell? ⟨7, 0, none⟩ = some ev) (hev : ev = .nilIface ∨ ∃ te pe, ev = .iface te pe) :
  Calls Tryd.prog 76 #[.string s, .int .i64 10, .int .i64 64] w fun e w' => ∃ N, e = .returned (.tuple #[.int .u64 18446744073709551615, .iface 145 (.pointer (some ⟨N, 0, none⟩))]) ∧ w.heap.size ≤ N ∧ w'.heap[N]? = some (.cells #[.string ⟨#[80, 97, 114, 115, 101, 85, 105, 110, 116]⟩, .string s, ev] 157 (0, 0)) ∧ Below w.heap.size w w' := Any.strconv_ParseUint_10_at64_range Tryd.laysPu14 s hlim h ev w hv hev
def Tryd.lays146_ren : Go.Shelf.Ren := ⟨fun | 146 => 13 | 221 => 27 | 268 => 55 | 138 => 56 | 143 => 57 | 195 => 71 | 197 => 72 | 218 => 73 | 219 => 74 | 260 => 80 | 217 => 75 | 225 => 81 | 224 => 82 | 267 => 83 | 266 => 84 | 314 => 94 | n => n, fun | 9 => 9 | 31 => 44 | 3 => 3 | 4 => 4 | 0 => 0 | 105 => 112 | 21 => 21 | 5 => 5 | 46 => 107 | 119 => 106 | 139 => 140 | 138 => 139 | 146 => 141 | 51 => 116 | n => n, fun | 1 => 2 | 3 => 3 | 4 => 4 | n => n⟩
theorem Tryd.lays146 : Go.Proofs.Lays.n146 Tryd.prog Tryd.lays146_ren := {
 mixed := by kernel_rfl
 f138 := Tryd.func56.trans (congrArg some (by kernel_rfl))
 f143 := Tryd.func57.trans (congrArg some (by kernel_rfl))
 f146 := Tryd.func13.trans (congrArg some (by kernel_rfl))
 f195 := Tryd.func71.trans (congrArg some (by kernel_rfl))
 f197 := Tryd.func72.trans (congrArg some (by kernel_rfl))
 f217 := Tryd.func75.trans (congrArg some (by kernel_rfl))
 f218 := Tryd.func73.trans (congrArg some (by kernel_rfl))
 f219 := Tryd.func74.trans (congrArg some (by kernel_rfl))
 f221 := Tryd.func27.trans (congrArg some (by kernel_rfl))
 f224 := Tryd.func82.trans (congrArg some (by kernel_rfl))
 f225 := Tryd.func81.trans (congrArg some (by kernel_rfl))
 f260 := Tryd.func80.trans (congrArg some (by kernel_rfl))
 f266 := Tryd.func84.trans (congrArg some (by kernel_rfl))
 f267 := Tryd.func83.trans (congrArg some (by kernel_rfl))
 f268 := Tryd.func55.trans (congrArg some (by kernel_rfl))
 f314 := Tryd.func94.trans (congrArg some (by kernel_rfl))
 t0 := Tryd.underlying0
 a0 := Tryd.isAgg0
 z0 := Tryd.sizeOf0
 v0 := Tryd.zeroValue0
 t3 := Tryd.underlying3
 a3 := Tryd.isAgg3
 z3 := Tryd.sizeOf3
 v3 := Tryd.zeroValue3
 t4 := Tryd.underlying4
 a4 := Tryd.isAgg4
 z4 := Tryd.sizeOf4
 v4 := Tryd.zeroValue4
 t5 := Tryd.underlying5
 a5 := Tryd.isAgg5
 z5 := Tryd.sizeOf5
 v5 := Tryd.zeroValue5
 t9 := Tryd.underlying9
 a9 := Tryd.isAgg9
 z9 := Tryd.sizeOf9
 v9 := Tryd.zeroValue9
 t21 := Tryd.underlying21
 a21 := Tryd.isAgg21
 z21 := Tryd.sizeOf21
 v21 := Tryd.zeroValue21
 t31 := Tryd.underlying44
 a31 := Tryd.isAgg44
 z31 := Tryd.sizeOf44
 v31 := Tryd.zeroValue44
 t46 := Tryd.underlying107
 a46 := Tryd.isAgg107
 z46 := Tryd.sizeOf107
 v46 := Tryd.zeroValue107
 t51 := Tryd.underlying116
 a51 := Tryd.isAgg116
 z51 := Tryd.sizeOf116
 v51 := Tryd.zeroValue116
 t105 := Tryd.underlying112
 a105 := Tryd.isAgg112
 z105 := Tryd.sizeOf112
 v105 := Tryd.zeroValue112
 t119 := Tryd.underlying106
 a119 := Tryd.isAgg106
 z119 := Tryd.sizeOf106
 t138 := Tryd.underlying139
 a138 := Tryd.isAgg139
 z138 := Tryd.sizeOf139
 v138 := Tryd.zeroValue139
 t139 := Tryd.underlying140
 a139 := Tryd.isAgg140
 z139 := Tryd.sizeOf140
 v139 := Tryd.zeroValue140
 t146 := Tryd.underlying141
 a146 := Tryd.isAgg141
 z146 := Tryd.sizeOf141
 v146 := Tryd.zeroValue141
 g1 := by kernel_rfl
 g3 := by kernel_rfl
 g4 := by kernel_rfl }
theorem Tryd.strings_Split (s sep : ByteArray) (m : Int) (w : World) (hs : s.size < 4294967281) (hm : w.cell? ⟨2, 0, none⟩ = some (.int .i64 m)) (h1 : 1 ≤ sep.size) :
  Calls Tryd.prog 13 #[.string s, .string sep] w fun e w' =>
   e = .returned (.slice (some ⟨w.heap.size, 0, none⟩) (Lib.countB s sep + 1) (Lib.countB s sep + 1)) ∧ w' = w.alloc (.cells ((Lib.splitB sep 0 (Lib.countB s sep) s).map Value.string).toArray 9) := Any.strings_Split Tryd.lays146 (by kernel_rfl) s sep m w hs hm h1
def Tryd.lays229_ren : Go.Shelf.Ren := ⟨fun | 229 => 14 | n => n, fun | 9 => 9 | 40 => 47 | 31 => 44 | 152 => 66 | 3 => 3 | 0 => 0 | 4 => 4 | 21 => 21 | 154 => 68 | n => n, fun | n => n⟩
theorem Tryd.lays229 : Go.Proofs.Lays.n229 Tryd.prog Tryd.lays229_ren := {
 mixed := by kernel_rfl
 f229 := Tryd.func14.trans (congrArg some (by kernel_rfl))
 t0 := Tryd.underlying0
 a0 := Tryd.isAgg0
 z0 := Tryd.sizeOf0
 v0 := Tryd.zeroValue0
 t3 := Tryd.underlying3
 a3 := Tryd.isAgg3
 z3 := Tryd.sizeOf3
 v3 := Tryd.zeroValue3
 t4 := Tryd.underlying4
 a4 := Tryd.isAgg4
 z4 := Tryd.sizeOf4
 v4 := Tryd.zeroValue4
 t9 := Tryd.underlying9
 a9 := Tryd.isAgg9
 z9 := Tryd.sizeOf9
 v9 := Tryd.zeroValue9
 t21 := Tryd.underlying21
 a21 := Tryd.isAgg21
 z21 := Tryd.sizeOf21
 v21 := Tryd.zeroValue21
 t31 := Tryd.underlying44
 a31 := Tryd.isAgg44
 z31 := Tryd.sizeOf44
 v31 := Tryd.zeroValue44
 t40 := Tryd.underlying47
 a40 := Tryd.isAgg47
 z40 := Tryd.sizeOf47
 v40 := Tryd.zeroValue47
 t152 := Tryd.underlying66
 a152 := Tryd.isAgg66
 z152 := Tryd.sizeOf66
 v152 := Tryd.zeroValue66
 t154 := Tryd.underlying68
 a154 := Tryd.isAgg68
 z154 := Tryd.sizeOf68
 v154 := Tryd.zeroValue68 }
theorem Tryd.strings_FieldsFunc_runes (g : Nat) (lb : Array Value) (eg : ∀ args w, (callFunc g args).run Tryd.prog w = .ok (.enter g args) w) (p : Nat → Bool) (s : ByteArray) (w : World) (hs : s.size ≤ 4294967296) (hp : PredAtRunes Tryd.prog g lb p w) :
  Calls Tryd.prog 14 #[.string s, .func (.func g) #[] lb] w fun e w' => ∃ A, e = .returned (.slice (some ⟨A, 0, none⟩) (Lib.goFieldsP p s).length (Lib.goFieldsP p s).length) ∧ w.heap.size ≤ A ∧
   w'.ownsRow w.heap.size 9 1 (.slice (some ⟨A, 0, none⟩) (Lib.goFieldsP p s).length (Lib.goFieldsP p s).length) (Lib.goFieldsP p s).length ((Lib.goFieldsP p s).map Value.string) ∧ Below w.heap.size w w' := Any.strings_FieldsFunc_runes Tryd.lays229 g lb eg p s w hs hp (by kernel_rfl) (by kernel_rfl)
end Go.Proofs
namespace Go.Trm
open Go.RowKit Go.Proofs
theorem zewa {F : Blks} {w : World} (h : GlOk Tryd.prog F w) (nm : String) (g : Nat) (q : Nat × (Value → Prop)) (h1 : Tryd.prog.globalNamed nm = some g) (h2 : q ∈ glReq nm) : ∃ v, w.cell? ⟨g, q.1, none⟩ = some v ∧ q.2 v := (h nm g q h1 h2).2
noncomputable def zRia {R : Type} (a0 : List UInt8) (a1 : Int) (K : Int → Option R) : Option R := K (Lib.indexByte a0 a1.toNat.toUInt8)
noncomputable def zgma : CSpec := { ins := [.val .str .s, .val (.int .u8) .s], outs := [(.int .i64, .s)], fn := fun (d : List UInt8 × Int × Unit) K _ => zRia d.1 d.2.1 fun r0 => K ((r0, ()) : Int × Unit) () }
theorem zDqa : Holds Tryd.prog 58 zgma := by
 refine zUma ⟨Tryd.f58, _, Tryd.func58, by kernel_rfl, rfl⟩ () (fun _ _ vs _ => by cases vs with | nil => trivial | cons _ vs => cases vs <;> trivial) ?_
 intro F w (d : List UInt8 × Int × Unit) vs fps R K Kp res hg hF ha hc
 obtain ⟨x, n, u⟩ := d
 obtain ⟨v0, vs1, rfl, i0, j0, r0, v1, vs2, rfl, i1, j1, r1, h2⟩ := ha
 have h2 : vs2 = [] := h2
 subst h2
 obtain ⟨e0, k0⟩ := zDga i0 j0 r0
 obtain ⟨e1, k1⟩ := zhna i1 j1 r1
 subst e0; subst e1
 refine (Tryd.strings_IndexByte ⟨(x : List UInt8).toArray⟩ n w).mono fun e w' he => ?_
 obtain ⟨rfl, rfl⟩ := he
 have hge := Lib.indexByte_ge (x : List UInt8) n.toNat.toUInt8
 have hle : Lib.indexByte (x : List UInt8) n.toNat.toUInt8 ≤ 2 ^ 63 - 1 := by
  rcases Int.lt_or_le (Lib.indexByte (x : List UInt8) n.toNat.toUInt8) 0 with h | h
  ·omega
  ·have := Lib.indexByte_some (l := (x : List UInt8)) (c := n.toNat.toUInt8) (o := (Lib.indexByte (x : List UInt8) n.toNat.toUInt8).toNat) (by omega)
   have h3 := (List.getElem?_eq_some_iff.1 this.1).1
   have k0' : List.length (x : List UInt8) ≤ 2 ^ 63 - 1 := k0
   omega
 refine ⟨_, ((Lib.indexByte x n.toNat.toUInt8, ()) : Int × Unit), none', rfl, hc, ⟨fun _ => rfl, ?_⟩, Below.refl _ _, fun b hb => hb.elim⟩
 exact zifa ⟨by show (-9223372036854775808 : Int) ≤ _; omega, by show _ ≤ (9223372036854775807 : Int); omega⟩
noncomputable def zRma {R : Type} (a0 a1 : List UInt8) (K : List (List UInt8) → Option R) : Option R := cond (a1 == [10] && decide (a0.length ≤ 4294967280)) (K (zIba 10 a0)) none
noncomputable def zzra : CSpec := { ins := [.val .str .s, .val .str .s], outs := [(.sl 9 .str, .o .s)], fn := fun (d : List UInt8 × List UInt8 × Unit) K _ => zRma d.1 d.2.1 fun r0 => K ((r0, ()) : List (List UInt8) × Unit) () }
theorem zpsa {l : List ByteArray} {z : List (List UInt8)} (h : l.map (·.data.toList) = z) (i : Nat) (hi : i < z.length) : (l.map Value.string).toArray.getD i undef = .string ⟨(z.getD i []).toArray⟩ := by
 subst h
 rw [List.length_map] at hi
 simp only [Array.getD_eq_getD_getElem?, List.getElem?_toArray, List.getElem?_map, List.getD_eq_getElem?_getD, List.getElem?_eq_getElem hi, Option.map_some, Option.getD_some]
theorem ztka (c : UInt8) : ∀ (l : List UInt8), (zIba c l).length ≤ l.length + 1 ∧ ∀ x ∈ zIba c l, x.length ≤ l.length
 | [] => by simp [zIba]
 | b :: l => by
  obtain ⟨h1, h2⟩ := ztka c l
  unfold zIba
  split
  ·refine ⟨by simp only [List.length_cons]; omega, fun x hx => ?_⟩
   rcases List.mem_cons.1 hx with rfl | hx
   ·simp
   ·have := h2 x hx; simp only [List.length_cons]; omega
  ·split
   ·simp
   ·rename_i y r he
    rw [he] at h1 h2
    refine ⟨by simp only [List.length_cons] at h1 ⊢; omega, fun x hx => ?_⟩
    rcases List.mem_cons.1 hx with rfl | hx
    ·have := h2 y List.mem_cons_self; simp only [List.length_cons]; omega
    ·have := h2 x (List.mem_cons_of_mem _ hx); simp only [List.length_cons]; omega
theorem zzea : ∀ (l w : List UInt8), (zeba w l).length ≤ w.length + l.length ∧ ∀ x ∈ zeba w l, x.length ≤ w.length + l.length
 | [], w => by
  unfold zeba
  split
  ·simp
  ·rename_i h
   have : 0 < w.length := by cases w <;> simp at h ⊢
   simp; omega
 | b :: l, w => by
  unfold zeba
  split
  ·split
   ·obtain ⟨h1, h2⟩ := zzea l []
    simp only [List.length_nil, List.length_cons] at *
    exact ⟨by omega, fun x hx => by have := h2 x hx; omega⟩
   ·rename_i h
    have h0 : 0 < w.length := by cases w <;> simp at h ⊢
    obtain ⟨h1, h2⟩ := zzea l []
    simp only [List.length_nil, List.length_cons] at *
    refine ⟨by omega, fun x hx => ?_⟩
    rcases List.mem_cons.1 hx with rfl | hx
    ·omega
    ·have := h2 x hx; omega
  ·obtain ⟨h1, h2⟩ := zzea l (w ++ [b])
   simp only [List.length_append, List.length_nil, List.length_cons] at *
   exact ⟨by omega, fun x hx => by have := h2 x hx; omega⟩
theorem zdwa : Holds Tryd.prog 13 zzra := by
 refine zUma ⟨Tryd.f13, _, Tryd.func13, by kernel_rfl, rfl⟩ () (fun _ _ vs _ => by cases vs with | nil => trivial | cons _ vs => cases vs <;> trivial) ?_
 intro F w (d : List UInt8 × List UInt8 × Unit) vs fps R K Kp res hg hF ha hc
 obtain ⟨x, y, u⟩ := d
 obtain ⟨v0, vs1, rfl, i0, j0, r0, v1, vs2, rfl, i1, j1, r1, h2⟩ := ha
 have h2 : vs2 = [] := h2
 subst h2
 obtain ⟨e0, k0⟩ := zDga i0 j0 r0
 obtain ⟨e1, k1⟩ := zDga i1 j1 r1
 subst e0; subst e1
 have hc' : cond ((y : List UInt8) == [10] && decide (List.length (x : List UInt8) ≤ 4294967280)) (K (zIba 10 x, ()) ()) none = some res := hc
 cases hb : ((y : List UInt8) == [10] && decide (List.length (x : List UInt8) ≤ 4294967280)) with
 | false => rw [hb] at hc'; cases hc'
 | true =>
 rw [hb] at hc'
 simp only [Bool.and_eq_true, beq_iff_eq, decide_eq_true_eq] at hb
 obtain ⟨rfl, hl⟩ := hb
 obtain ⟨v, hv, m, rfl⟩ := zewa hg "internal/bytealg.MaxLen" 2 (0, fun v => ∃ m, v = .int .i64 m) (by kernel_rfl) (by simp [glReq])
 have hsz : (⟨(x : List UInt8).toArray⟩ : ByteArray).size = List.length (x : List UInt8) := rfl
 refine (Tryd.strings_Split ⟨(x : List UInt8).toArray⟩ ⟨#[10]⟩ m w (by rw [hsz]; omega) hv (by decide)).mono fun e w' he => ?_
 obtain ⟨rfl, rfl⟩ := he
 have hsp := zrsa ⟨(x : List UInt8).toArray⟩ 10
 have hz : (zIba 10 (x : List UInt8)).length = Lib.countB ⟨(x : List UInt8).toArray⟩ ⟨#[10]⟩ + 1 := by
  rw [show (x : List UInt8) = (⟨(x : List UInt8).toArray⟩ : ByteArray).data.toList from rfl, ← hsp, List.length_map]
  exact Lib.splitB_all ⟨#[10]⟩ (by decide) 0 _ _ rfl
 obtain ⟨hn1, hn2⟩ := ztka 10 (x : List UInt8)
 have hres := zzsa (F := F) (w' := w.alloc (.cells ((Lib.splitB ⟨#[10]⟩ 0 (Lib.countB ⟨(x : List UInt8).toArray⟩ ⟨#[10]⟩) ⟨(x : List UInt8).toArray⟩).map Value.string).toArray 9)) (cap := Lib.countB ⟨(x : List UInt8).toArray⟩ ⟨#[10]⟩ + 1) (z := zIba 10 (x : List UInt8)) (e := 9) zhga (by
  rw [List.size_toArray, List.length_map]
  exact Lib.splitB_all ⟨#[10]⟩ (by decide) 0 _ _ rfl) (by omega) (by omega) (fun i hi => ⟨zpsa hsp i hi, by
   rw [List.getD_eq_getElem?_getD, List.getElem?_eq_getElem hi]
   have := hn2 _ (List.getElem_mem hi)
   simp only [Option.getD_some]; omega⟩)
 rw [hz] at hres
 refine ⟨_, ((zIba 10 (x : List UInt8), ()) : List (List UInt8) × Unit), _, rfl, hc', hres, ⟨rfl, rfl, rfl, by rw [World.size_alloc]; omega, fun k hk => zzca hk⟩, fun b hb => ?_⟩
 rw [World.size_alloc]
 rcases hb with rfl | ⟨_, hb⟩
 ·omega
 ·exact hb.elim
noncomputable def zBka {R : Type} (a0 : List UInt8) (K : List (List UInt8) → Option R) : Option R := cond (decide (a0.length ≤ most)) (K (zeba [] a0)) none
noncomputable def zQpa : CSpec := { ins := [.val .str .s, .fn 15], outs := [(.sl 9 .str, .o .s)], fn := fun (d : List UInt8 × Unit × Unit) K _ => zBka d.1 fun r0 => K ((r0, ()) : List (List UInt8) × Unit) () }
theorem zcsa (W : World) (x : Nat) (hx : x ≤ 1114111) : FnGives Tryd.prog 15 #[] #[encR x] (.bool (x == 32)) W := by
 unfold FnGives
 show Calls Tryd.prog 15 #[.int .i32 (x : Int)] W _
 have hb : (((x : Int) == 32) : Bool) = (x == 32) := by
  rw [Bool.eq_iff_iff]; simp only [beq_iff_eq]; omega
 go_enter Tryd.func15, Tryd.ntmps15
 go_wp2
 go_ret
 exact ⟨by rw [← hb]; rfl, ⟨0, rfl⟩⟩
theorem zqua : Holds Tryd.prog 14 zQpa := by
 refine zUma ⟨Tryd.f14, _, Tryd.func14, by kernel_rfl, rfl⟩ () (fun _ _ vs _ => by cases vs with | nil => trivial | cons _ vs => cases vs <;> trivial) ?_
 intro F w (d : List UInt8 × Unit × Unit) vs fps R K Kp res hg hF ha hc
 obtain ⟨x, u, u'⟩ := d
 obtain ⟨v0, vs1, rfl, i0, j0, r0, v1, vs2, rfl, i1, h2⟩ := ha
 have h2 : vs2 = [] := h2
 subst h2
 obtain ⟨e0, k0⟩ := zDga i0 j0 r0
 subst e0; subst i1
 have hc' : cond (decide (List.length (x : List UInt8) ≤ most)) (K (zeba [] x, ()) ()) none = some res := hc
 by_cases hb : List.length (x : List UInt8) ≤ most
 case neg => rw [decide_eq_false hb] at hc'; cases hc'
 rw [decide_eq_true hb] at hc'
 unfold most at hb
 have hsz : (⟨(x : List UInt8).toArray⟩ : ByteArray).size = List.length (x : List UInt8) := rfl
 refine (Tryd.strings_FieldsFunc_runes 15 #[] (enters_of Tryd.func15 (by kernel_rfl) rfl) (fun r => r == 32) ⟨(x : List UInt8).toArray⟩ w (by rw [hsz]; omega) (fun W n hn _ => zcsa W n hn)).mono fun e w' he => ?_
 obtain ⟨A, rfl, hA, ⟨_, hown⟩, hbel⟩ := he
 have hsp := zHqa ⟨(x : List UInt8).toArray⟩
 obtain ⟨hn1, hn2⟩ := zzea (x : List UInt8) []
 rw [List.length_nil, Nat.zero_add] at hn1 hn2
 have hz : (zeba [] (x : List UInt8)).length = (Lib.goFieldsP (fun r => r == 32) ⟨(x : List UInt8).toArray⟩).length := by
  rw [show (x : List UInt8) = (⟨(x : List UInt8).toArray⟩ : ByteArray).data.toList from rfl, ← hsp, List.length_map]
 rw [← hz] at hown ⊢
 rcases hown with ⟨hc0, _⟩ | ⟨g, cap, cur, e1, e2, e3, e4, e5, e6, e7⟩
 ·cases hc0
 cases e1
 rw [Nat.mul_one] at e6 e7
 have hres := zzsa (F := F) (z := zeba [] (x : List UInt8)) (e := 9) e3 e6 e5 e4 (fun i hi => ⟨by
  have h5 : cur.getD i undef = ((Lib.goFieldsP (fun r => r == 32) ⟨(x : List UInt8).toArray⟩).map Value.string).toArray.getD i undef := by
   rw [← e7]
   simp only [Array.getD_eq_getD_getElem?, List.getElem?_toArray, List.getElem?_take, Array.getElem?_toList]
   rw [if_pos hi]
  rw [h5]
  exact zpsa hsp i hi, by
   rw [List.getD_eq_getElem?_getD, List.getElem?_eq_getElem hi]
   have := hn2 _ (List.getElem_mem hi)
   simp only [Option.getD_some]; omega⟩)
 refine ⟨_, ((zeba [] (x : List UInt8), ()) : List (List UInt8) × Unit), _, rfl, hc', hres, hbel, fun b hb => ?_⟩
 rcases hb with rfl | ⟨_, hb⟩
 ·exact ⟨hA, (Array.getElem?_eq_some_iff.1 e3).1⟩
 ·exact hb.elim
noncomputable def zQia {R : Type} (a0 : List UInt8) (a1 a2 : Int) (K : Int → Bool → Option R) : Option R := cond (a1 == 10 && a2 == 64 && decide (a0.length ≤ most)) (K (zdka a0).1 (zdka a0).2) none
noncomputable def zfma : CSpec := { ins := [.val .str .s, .val (.int .i64) .s, .val (.int .i64) .s], outs := [(.int .u64, .s), (.err, .s)], fn := fun (d : List UInt8 × Int × Int × Unit) K _ => zQia d.1 d.2.1 d.2.2.1 fun r0 r1 => K ((r0, r1, ()) : Int × Bool × Unit) () }
theorem zgna {F : Blks} {w' : World} {u : Int} {b : Bool} {v : Value} (h1 : 0 ≤ u) (h2 : u ≤ 18446744073709551615) (h : errV b v) : ResR F w' (.tuple #[.int .u64 u, v]) none' (.tup [.v (.int .u64) .s u, .v .err .s b]) := by
 have hv : v = cv v 0 := by
  cases b with
  | false => cases h; rfl
  | true => obtain ⟨T, p, rfl⟩ := h; rfl
 refine ⟨[.int .u64 u, v], rfl, rfl, fun _ => none', ⟨fun _ _ _ _ hb => hb.elim⟩, fun _ _ hb => hb.elim, fun k => ?_⟩
 rcases k with _ | _ | k
 ·intro t m x hx; cases hx; exact ⟨_, rfl, fun _ => rfl, zifa (kd := .u64) ⟨h1, h2⟩⟩
 ·intro t m x hx; cases hx; refine ⟨_, rfl, fun _ => hv, ?_⟩
  simp only [rep]
  rw [← hv]
  exact h
 ·intro t m x hx; cases hx
theorem zera : ∀ (l : List UInt8) (acc n : Nat), acc ≤ 18446744073709551615 → Lib.parseUintM (2 ^ 64 - 1) acc l = .ok n → n ≤ 18446744073709551615
 | [], acc, n, ha, h => by simp only [Lib.parseUintM] at h; cases h; exact ha
 | c :: r, acc, n, ha, h => by
  unfold Lib.parseUintM at h
  split at h
  ·split at h
   ·cases h
   ·split at h
    ·cases h
    ·exact zera r _ n (by omega) h
  ·cases h
theorem zCqa : Holds Tryd.prog 76 zfma := by
 refine zUma ⟨Tryd.f76, _, Tryd.func76, by kernel_rfl, rfl⟩ () (fun _ _ vs _ => by cases vs with | nil => trivial | cons _ vs => cases vs with | nil => trivial | cons _ vs => cases vs <;> trivial) ?_
 intro F w (d : List UInt8 × Int × Int × Unit) vs fps R K Kp res hg hF ha hc
 obtain ⟨x, n, z, u⟩ := d
 obtain ⟨v0, vs1, rfl, i0, j0, r0, v1, vs2, rfl, i1, j1, r1, v2, vs3, rfl, i2, j2, r2, h2⟩ := ha
 have h2 : vs3 = [] := h2
 subst h2
 obtain ⟨e0, k0⟩ := zDga i0 j0 r0
 obtain ⟨e1, k1⟩ := zhna i1 j1 r1
 obtain ⟨e2, k2⟩ := zhna i2 j2 r2
 subst e0; subst e1; subst e2
 have hc' : cond ((n : Int) == 10 && (z : Int) == 64 && decide (List.length (x : List UInt8) ≤ most)) (K ((zdka x).1, (zdka x).2, ()) ()) none = some res := hc
 cases hb : ((n : Int) == 10 && (z : Int) == 64 && decide (List.length (x : List UInt8) ≤ most)) with
 | false => rw [hb] at hc'; cases hc'
 | true =>
 rw [hb] at hc'
 simp only [Bool.and_eq_true, beq_iff_eq, decide_eq_true_eq] at hb
 obtain ⟨⟨rfl, rfl⟩, hl⟩ := hb
 unfold most at hl
 have hsz : (⟨(x : List UInt8).toArray⟩ : ByteArray).size = List.length (x : List UInt8) := rfl
 have hK : K ((zdka x).1, (zdka x).2, ()) () = some res := hc'
 cases hp : Lib.parseUintB 64 (x : List UInt8) with
 | ok m =>
  have hv : zdka x = ((m : Int), false) := by unfold zdka; rw [hp]
  rw [hv] at hK
  refine (Tryd.strconv_ParseUint_10_at64_ok ⟨(x : List UInt8).toArray⟩ (by rw [hsz]; omega) m hp w).mono fun e w' he => ?_
  obtain ⟨rfl, hw⟩ := he
  have hm : m ≤ 18446744073709551615 := by
   unfold Lib.parseUintB at hp
   split at hp
   ·cases hp
   ·exact zera _ 0 m (by omega) hp
  refine ⟨_, (((m : Int), false, ()) : Int × Bool × Unit), none', rfl, hK, zgna (by omega) (by omega) rfl, ?_, fun b hb => hb.elim⟩
  rcases hw with rfl | rfl
  ·exact Below.refl _ _
  ·exact Lib.bytesWorld_below _ _ _
 | «syntax» =>
  have hv : zdka x = (0, true) := by unfold zdka; rw [hp]
  rw [hv] at hK
  obtain ⟨ev, h1, h3⟩ := zewa hg "strconv.ErrSyntax" 6 (0, fun v => v = .nilIface ∨ ∃ te pe, v = .iface te pe) (by kernel_rfl) (by simp [glReq])
  refine (Tryd.strconv_ParseUint_10_at64_syntax ⟨(x : List UInt8).toArray⟩ (by rw [hsz]; omega) hp ev w h1 h3).mono fun e w' he => ?_
  obtain ⟨N, rfl, _, _, hbel⟩ := he
  exact ⟨_, ((0, true, ()) : Int × Bool × Unit), none', rfl, hK, zgna (by omega) (by omega) ⟨_, _, rfl⟩, hbel, fun b hb => hb.elim⟩
 | range =>
  have hv : zdka x = (18446744073709551615, true) := by unfold zdka; rw [hp]
  rw [hv] at hK
  obtain ⟨ev, h1, h3⟩ := zewa hg "strconv.ErrRange" 7 (0, fun v => v = .nilIface ∨ ∃ te pe, v = .iface te pe) (by kernel_rfl) (by simp [glReq])
  refine (Tryd.strconv_ParseUint_10_at64_range ⟨(x : List UInt8).toArray⟩ (by rw [hsz]; omega) hp ev w h1 h3).mono fun e w' he => ?_
  obtain ⟨N, rfl, _, _, hbel⟩ := he
  exact ⟨_, ((18446744073709551615, true, ()) : Int × Bool × Unit), none', rfl, hK, zgna (by omega) (by omega) ⟨_, _, rfl⟩, hbel, fun b hb => hb.elim⟩
end Go.Trm
namespace Go.Trm
def pEq : List PE → List PE → Bool
 | [], [] => true
 | .fld i :: p, .fld j :: q => Nat.beq i j && pEq p q
 | .der :: p, .der :: q => pEq p q
 | _, _ => false
theorem zspa : ∀ {p q : List PE}, pEq p q = true → p = q
 | [], [], _ => rfl
 | .fld i :: p, .fld j :: q, h => by
  simp only [pEq, Bool.and_eq_true] at h
  rw [Nat.eq_of_beq_eq_true h.1, zspa h.2]
 | .der :: p, .der :: q, h => by rw [zspa (p := p) (q := q) h]
 | [], _ :: _, h => by cases h
 | .fld _ :: _, [], h => by cases h
 | .fld _ :: _, .der :: _, h => by cases h
 | .fld _ :: _, .idx _ :: _, h => by cases h
 | .der :: _, [], h => by cases h
 | .der :: _, .fld _ :: _, h => by cases h
 | .der :: _, .idx _ :: _, h => by cases h
 | .idx _ :: _, _, h => by cases h
def cEq : List (Nat × List PE) → List (Nat × List PE) → Bool
 | [], [] => true
 | (a, p) :: l, (b, q) :: m => Nat.beq a b && (pEq p q && cEq l m)
 | _, _ => false
theorem zpwa : ∀ {l m : List (Nat × List PE)}, cEq l m = true → l = m
 | [], [], _ => rfl
 | (a, p) :: l, (b, q) :: m, h => by
  simp only [cEq, Bool.and_eq_true] at h
  rw [Nat.eq_of_beq_eq_true h.1, zspa h.2.1, zpwa h.2.2]
 | [], _ :: _, h => by cases h
 | _ :: _, [], h => by cases h
def pIdx : List PE → List PE → List PE → Option Int
 | [], post, .idx i :: p => match pEq post p with
  | true => some i
  | false => none
 | .fld i :: pr, post, .fld j :: p => match Nat.beq i j with
  | true => pIdx pr post p
  | false => none
 | .der :: pr, post, .der :: p => pIdx pr post p
 | _, _, _ => none
theorem zhra : ∀ {pr post p : List PE} {i : Int}, pIdx pr post p = some i → p = pr ++ .idx i :: post
 | [], post, .idx j :: p, i, h => by
  simp only [pIdx] at h
  split at h
  ·rename_i he
   simp only [Option.some.injEq] at h
   rw [h, zspa he]
   rfl
  ·cases h
 | .fld a :: pr, post, .fld b :: p, i, h => by
  simp only [pIdx] at h
  split at h
  ·rename_i he
   rw [Nat.eq_of_beq_eq_true he, zhra h]
   rfl
  ·cases h
 | .der :: pr, post, .der :: p, i, h => by
  simp only [pIdx] at h
  rw [zhra h]
  rfl
 | [], _, [], _, h => by cases h
 | [], _, .fld _ :: _, _, h => by cases h
 | [], _, .der :: _, _, h => by cases h
 | .fld _ :: _, _, [], _, h => by cases h
 | .fld _ :: _, _, .der :: _, _, h => by cases h
 | .fld _ :: _, _, .idx _ :: _, _, h => by cases h
 | .der :: _, _, [], _, h => by cases h
 | .der :: _, _, .fld _ :: _, _, h => by cases h
 | .der :: _, _, .idx _ :: _, _, h => by cases h
 | .idx _ :: _, _, _, _, h => by simp [pIdx] at h
section
variable {R : Type} {res : R}
def mV (t : Ty) (m : Md) (s : SV) (k : t.I → Option R) : Option R := match s with
 | .v t' m' x => match m'.eqb m with
  | true => match castI t' t x with
   | some y => k y
   | none => none
  | false => none
 | _ => none
theorem zmxa {t : Ty} {m : Md} {s : SV} {k : t.I → Option R} (h : mV t m s k = some res) : ∃ y, s = .v t m y ∧ k y = some res := by
 unfold mV at h
 split at h
 ·split at h
  ·rename_i he
   split at h
   ·rename_i y hc
    obtain ⟨eu, hy⟩ := zhba hc
    subst eu
    simp only at hy
    subst hy
    exact ⟨_, by rw [Md.eqb_eq he], h⟩
   ·cases h
  ·cases h
 ·cases h
def mP (T : TypeId) (t : Ty) (m : Md) (s : SV) (k : t.I → Option R) : Option R := mV (.ptr T t) m s fun y => match (y : Option t.I) with
 | some c => k c
 | none => none
theorem ziya {T : TypeId} {t : Ty} {m : Md} {s : SV} {k : t.I → Option R} (h : mP T t m s k = some res) : ∃ y : t.I, s = .v (.ptr T t) m (some y) ∧ k y = some res := by
 obtain ⟨y, h1, h2⟩ := zmxa h
 cases y with
 | none => cases h2
 | some c => exact ⟨c, h1, h2⟩
def mAl (r : Nat) (p : List PE) (s : SV) (k : Option R) : Option R := match s with
 | .al r' p' => match Nat.beq r r' && pEq p p' with
  | true => k
  | false => none
 | _ => none
theorem zqxa {r : Nat} {p : List PE} {s : SV} {k : Option R} (h : mAl r p s k = some res) : s = .al r p ∧ k = some res := by
 unfold mAl at h
 split at h
 ·split at h
  ·rename_i he
   simp only [Bool.and_eq_true] at he
   rw [Nat.eq_of_beq_eq_true he.1, zspa he.2]
   exact ⟨rfl, h⟩
  ·cases h
 ·cases h
def mAl1 (r : Nat) (pr post : List PE) (s : SV) (k : Int → Option R) : Option R := match s with
 | .al r' p' => match Nat.beq r r', pIdx pr post p' with
  | true, some i => k i
  | _, _ => none
 | _ => none
theorem zPva {r : Nat} {pr post : List PE} {s : SV} {k : Int → Option R} (h : mAl1 r pr post s k = some res) : ∃ i, s = .al r (pr ++ .idx i :: post) ∧ k i = some res := by
 unfold mAl1 at h
 split at h
 ·split at h
  ·rename_i i he hi
   rw [Nat.eq_of_beq_eq_true he, zhra hi]
   exact ⟨i, rfl, h⟩
  ·cases h
 ·cases h
def mLz (r : Nat) (p : List PE) (s : SV) (k : Option R) : Option R := match s with
 | .lz r' p' => match Nat.beq r r' && pEq p p' with
  | true => k
  | false => none
 | _ => none
theorem znxa {r : Nat} {p : List PE} {s : SV} {k : Option R} (h : mLz r p s k = some res) : s = .lz r p ∧ k = some res := by
 unfold mLz at h
 split at h
 ·split at h
  ·rename_i he
   simp only [Bool.and_eq_true] at he
   rw [Nat.eq_of_beq_eq_true he.1, zspa he.2]
   exact ⟨rfl, h⟩
  ·cases h
 ·cases h
def mLz1 (r : Nat) (pr post : List PE) (s : SV) (k : Int → Option R) : Option R := match s with
 | .lz r' p' => match Nat.beq r r', pIdx pr post p' with
  | true, some i => k i
  | _, _ => none
 | _ => none
theorem zNva {r : Nat} {pr post : List PE} {s : SV} {k : Int → Option R} (h : mLz1 r pr post s k = some res) : ∃ i, s = .lz r (pr ++ .idx i :: post) ∧ k i = some res := by
 unfold mLz1 at h
 split at h
 ·split at h
  ·rename_i i he hi
   rw [Nat.eq_of_beq_eq_true he, zhra hi]
   exact ⟨i, rfl, h⟩
  ·cases h
 ·cases h
def mSub (r : Nat) (p : List PE) (s : SV) (k : Int → Int → Option R) : Option R := match s with
 | .sub r' p' lo hi => match Nat.beq r r' && pEq p p' with
  | true => k lo hi
  | false => none
 | _ => none
theorem zLva {r : Nat} {p : List PE} {s : SV} {k : Int → Int → Option R} (h : mSub r p s k = some res) : ∃ lo hi, s = .sub r p lo hi ∧ k lo hi = some res := by
 unfold mSub at h
 split at h
 ·split at h
  ·rename_i he
   simp only [Bool.and_eq_true] at he
   rw [Nat.eq_of_beq_eq_true he.1, zspa he.2]
   exact ⟨_, _, rfl, h⟩
  ·cases h
 ·cases h
def mFn (f : FuncId) (a c : List (Nat × List PE)) (s : SV) (k : Option R) : Option R := match s with
 | .fn f' a' c' => match Nat.beq f f' && (cEq a a' && cEq c c') with
  | true => k
  | false => none
 | _ => none
theorem zoxa {f : FuncId} {a c : List (Nat × List PE)} {s : SV} {k : Option R} (h : mFn f a c s k = some res) : s = .fn f a c ∧ k = some res := by
 unfold mFn at h
 split at h
 ·split at h
  ·rename_i he
   simp only [Bool.and_eq_true] at he
   rw [Nat.eq_of_beq_eq_true he.1, zpwa he.2.1, zpwa he.2.2]
   exact ⟨rfl, h⟩
  ·cases h
 ·cases h
def mBx (r : Nat) (p : List PE) (s : SV) (k : Option R) : Option R := match s with
 | .bx r' p' => match Nat.beq r r' && pEq p p' with
  | true => k
  | false => none
 | _ => none
theorem zpxa {r : Nat} {p : List PE} {s : SV} {k : Option R} (h : mBx r p s k = some res) : s = .bx r p ∧ k = some res := by
 unfold mBx at h
 split at h
 ·split at h
  ·rename_i he
   simp only [Bool.and_eq_true] at he
   rw [Nat.eq_of_beq_eq_true he.1, zspa he.2]
   exact ⟨rfl, h⟩
  ·cases h
 ·cases h
def mIfc (T : TypeId) (t : Ty) (s : SV) (k : t.I → Option R) : Option R := match s with
 | .ifc T' t' x => match Nat.beq T T' with
  | true => match castI t' t x with
   | some y => k y
   | none => none
  | false => none
 | _ => none
theorem zOva {T : TypeId} {t : Ty} {s : SV} {k : t.I → Option R} (h : mIfc T t s k = some res) : ∃ y, s = .ifc T t y ∧ k y = some res := by
 unfold mIfc at h
 split at h
 ·split at h
  ·rename_i he
   split at h
   ·rename_i y hc
    obtain ⟨eu, hy⟩ := zhba hc
    subst eu
    simp only at hy
    subst hy
    exact ⟨_, by rw [Nat.eq_of_beq_eq_true he], h⟩
   ·cases h
  ·cases h
 ·cases h
def mTup (s : SV) (k : Option R) : Option R := match s with
 | .tup [] => k
 | _ => none
theorem zKva {s : SV} {k : Option R} (h : mTup s k = some res) : s = .tup [] ∧ k = some res := by
 unfold mTup at h
 split at h
 ·exact ⟨rfl, h⟩
 ·cases h
def mNil (s : SV) (k : Option R) : Option R := match s with
 | .nil => k
 | _ => none
theorem zMva {s : SV} {k : Option R} (h : mNil s k = some res) : s = .nil ∧ k = some res := by
 unfold mNil at h
 split at h
 ·exact ⟨rfl, h⟩
 ·cases h
end
theorem zxwa {st : St} {s : Nat} {v : SV} {l : List (Nat × SV)} {m : List (Nat × Bool)} {z : Bool} (h : st s = v) (h2 : (m.map fun q => (q.1, st q.1)) = l) : (((s, z) :: m).map fun q => (q.1, st q.1)) = (s, v) :: l := by
 simp only [List.map_cons, h, h2]
theorem ztqa {st : St} {m : List (Nat × Bool)} {l : List (Nat × SV)} (h : (m.map fun q => (q.1, (St.only st (m.map Prod.fst)) q.1)) = l) : St.only st (m.map Prod.fst) = St.ofList l := by
 rw [← h]
 refine (zbua (l := m.map Prod.fst) (st := st)).symm.trans ?_
 show St.ofList ((m.map Prod.fst).map fun s => (s, (St.only st (m.map Prod.fst)) s)) = _
 rw [List.map_map]
 rfl
end Go.Trm
namespace Go.Trm
end Go.Trm
namespace Go.Trm
structure SPat where
 A : Type
 sv : A → SV
 look : (R : Type) → SV → (A → Option R) → Option R
 inv : ∀ (R : Type) (s : SV) (k : A → Option R) (r : R), look R s k = some r → ∃ a, s = sv a ∧ k a = some r
def sV (t : Ty) (m : Md) : SPat := ⟨t.I, .v t m, fun _ => mV t m, fun _ _ _ _ h => zmxa h⟩
def sP (T : TypeId) (t : Ty) (m : Md) : SPat := ⟨t.I, fun y => .v (.ptr T t) m (some y), fun _ => mP T t m, fun _ _ _ _ h => ziya h⟩
def sAl (r : Nat) (p : List PE) : SPat := ⟨Unit, fun _ => .al r p, fun _ s k => mAl r p s (k ()), fun _ _ _ _ h => ⟨(), zqxa h⟩⟩
def sLz (r : Nat) (p : List PE) : SPat := ⟨Unit, fun _ => .lz r p, fun _ s k => mLz r p s (k ()), fun _ _ _ _ h => ⟨(), znxa h⟩⟩
def sBx (r : Nat) (p : List PE) : SPat := ⟨Unit, fun _ => .bx r p, fun _ s k => mBx r p s (k ()), fun _ _ _ _ h => ⟨(), zpxa h⟩⟩
def sAl1 (r : Nat) (p q : List PE) : SPat := ⟨Int, fun i => .al r (p ++ .idx i :: q), fun _ => mAl1 r p q, fun _ _ _ _ h => zPva h⟩
def sLz1 (r : Nat) (p q : List PE) : SPat := ⟨Int, fun i => .lz r (p ++ .idx i :: q), fun _ => mLz1 r p q, fun _ _ _ _ h => zNva h⟩
def sSub (r : Nat) (p : List PE) : SPat := ⟨Int × Int, fun i => .sub r p i.1 i.2, fun _ s k => mSub r p s fun a b => k (a, b), fun _ _ _ _ h => by
 obtain ⟨a, b, h1, h2⟩ := zLva h
 exact ⟨(a, b), h1, h2⟩⟩
def sFn (f : FuncId) (c d : List (Nat × List PE)) : SPat := ⟨Unit, fun _ => .fn f c d, fun _ s k => mFn f c d s (k ()), fun _ _ _ _ h => ⟨(), zoxa h⟩⟩
def sIfc (T : TypeId) (t : Ty) : SPat := ⟨t.I, .ifc T t, fun _ => mIfc T t, fun _ _ _ _ h => zOva h⟩
def sTup : SPat := ⟨Unit, fun _ => .tup [], fun _ s k => mTup s (k ()), fun _ _ _ _ h => ⟨(), zKva h⟩⟩
def sNil : SPat := ⟨Unit, fun _ => .nil, fun _ s k => mNil s (k ()), fun _ _ _ _ h => ⟨(), zMva h⟩⟩
inductive Pt (X : Type) : Type 1 where
 | e (x : X)
 | s (n : Nat) (p : SPat) (k : p.A → Pt X)
noncomputable def Pt.run {X : Type} (p : Pt X) : (R : Type) → St → (X → Option R) → Option R :=
 Pt.rec (motive := fun _ => (R : Type) → St → (X → Option R) → Option R) (fun x _ _ F => F x) (fun n p _ ih R st F => p.look R (st n) fun a => ih a R st F) p
def Pt.ok {X : Type} (S : X → St) (hd : List (Nat × Bool)) (p : Pt X) : (List (Nat × SV) → List (Nat × SV)) → Prop :=
 Pt.rec (motive := fun _ => (List (Nat × SV) → List (Nat × SV)) → Prop) (fun x f => S x = St.ofList (f []) ∧ (f []).map Prod.fst = hd.map Prod.fst) (fun n p _ ih f => ∀ a, ih a fun l => f ((n, p.sv a) :: l)) p
theorem zlxa {st : St} : ∀ {l : List (Nat × SV)} {m : List (Nat × Bool)}, l.map Prod.fst = m.map Prod.fst → (∀ q ∈ l, st q.1 = q.2) → (m.map fun q => (q.1, st q.1)) = l
 | [], [], _, _ => rfl
 | [], _ :: _, h, _ => by cases h
 | _ :: _, [], h, _ => by cases h
 | q :: l, x :: m, h, g => by
  simp only [List.map_cons, List.cons.injEq] at h
  rw [List.map_cons, zlxa h.2 (fun q hq => g q (List.mem_cons_of_mem _ hq)), ← h.1, g q List.mem_cons_self]
theorem Pt.inv {X R : Type} {S : X → St} {hd : List (Nat × Bool)} {st : St} {F : X → Option R} {r : R} : ∀ (p : Pt X) (f : List (Nat × SV) → List (Nat × SV)), p.ok S hd f → (∀ l, (∀ q ∈ l, st q.1 = q.2) → ∀ q ∈ f l, st q.1 = q.2) → p.run R st F = some r →
  ∃ x l, F x = some r ∧ S x = St.ofList l ∧ l.map Prod.fst = hd.map Prod.fst ∧ ∀ q ∈ l, st q.1 = q.2 := by
 intro p
 induction p with
 | e x => intro f h1 h2 h3; exact ⟨x, f [], h3, h1.1, h1.2, h2 [] (fun q hq => by cases hq)⟩
 | s n p k ih =>
  intro f h1 h2 h3
  obtain ⟨a, h4, h5⟩ := p.inv _ _ _ _ h3
  refine ih a _ (h1 a) (fun l hl => h2 _ fun q hq => ?_) h5
  rcases List.mem_cons.1 hq with rfl | hq
  ·exact h4
  ·exact hl q hq
theorem Pt.only {X R : Type} {S : X → St} {hd : List (Nat × Bool)} {st : St} {F : X → Option R} {r : R} {p : Pt X} (h : p.ok S hd id) (hr : p.run R (St.only st (hd.map Prod.fst)) F = some r) : ∃ x, St.only st (hd.map Prod.fst) = S x ∧ F x = some r := by
 obtain ⟨x, l, h1, h2, h3, h4⟩ := p.inv id h (fun l hl => hl) hr
 exact ⟨x, (ztqa (zlxa h3 h4)).trans h2.symm, h1⟩
section
variable {env : Env} {lp : Loops} {inl : Inl} {c : Code} {hd : List (Nat × Bool)} {out : Ex → List (Nat × Bool)} {X : Type} {S : X → St}
def LStep (env : Env) (lp : Loops) (inl : Inl) (c : Code) (hd : List (Nat × Bool)) (out : Ex → List (Nat × Bool)) (S : X → St) (B : (R : Type) → (Ex → St → Option R) → (X → Option R) → X → Option R) : Prop :=
 ∀ (R : Type) (K : Ex → St → Option R) (rec : St → Option R) (x : X), evC env lp inl c (S x) (fun e st => match e with | .normal => zPfa hd st rec | e => zPfa (out e) st (K e)) = B R K (fun x => rec (S x)) x
def JStep (env : Env) (lp : Loops) (inl : Inl) (c : Code) (out : Ex → List (Nat × Bool)) (S : X → St) (J : (R : Type) → (Ex → St → Option R) → X → Option R) : Prop :=
 ∀ (R : Type) (K : Ex → St → Option R) (x : X), evC env lp inl c (S x) (fun e st => zPfa (out e) st (K e)) = J R K x
noncomputable def lpE {R : Type} (hd : List (Nat × Bool)) (p : Pt X) (F : X → Option R) (st : St) : Option R := zPfa hd st fun st => p.run R st F
noncomputable def lpL {R : Type} (B : (R : Type) → (Ex → St → Option R) → (X → Option R) → X → Option R) (K : Ex → St → Option R) (x : X) : Option R := loopN (B R K) zyfa x
theorem zWba {B : (R : Type) → (Ex → St → Option R) → (X → Option R) → X → Option R} {p : Pt X} {i : Nat} (step : LStep env lp inl c hd out S B) (hp : p.ok S hd id) (hi : zoha c = some i) (hlp : ∀ R st K, lp false i R st K = lpE hd p (lpL B K) st) : zrha env lp inl c :=
 zgua (S := S) B (fun _ => zyfa) i step hi (fun R K st => p.run R st (lpL B K)) hlp fun _ _ _ _ h => Pt.only hp h
theorem zkba {J : (R : Type) → (Ex → St → Option R) → X → Option R} {p : Pt X} {i : Nat} (step : JStep env lp inl c out S J) (hp : p.ok S hd id) (hlp : ∀ R st K, lp true i R st K = lpE hd p (J R K) st) : zQfa env lp inl c i :=
 zjua (S := S) J i step (fun R K st => p.run R st (J R K)) hlp fun _ _ _ _ h => Pt.only hp h
end
def gamL : List (FuncId × List FuncId × CSpec) → FuncId → List FuncId → Option CSpec
 | [], _, _ => none
 | q :: l, f, gs => match Nat.beq q.1 f && lEq q.2.1 gs with
  | true => some q.2.2
  | false => gamL l f gs
where lEq : List Nat → List Nat → Bool
 | [], [] => true
 | a :: l, b :: m => Nat.beq a b && lEq l m
 | _, _ => false
def GamOk (P : Program) : List (FuncId × List FuncId × CSpec) → Prop
 | [] => True
 | q :: l => Holds P q.1 q.2.2 ∧ GamOk P l
theorem zKba {P : Program} : ∀ {l : List (FuncId × List FuncId × CSpec)}, GamOk P l → ∀ f gs c, gamL l f gs = some c → Holds P f c
 | [], _, _, _, _, h => by cases h
 | q :: l, ⟨h1, h2⟩, f, gs, c, h => by
  unfold gamL at h
  split at h
  ·rename_i he
   simp only [Bool.and_eq_true] at he
   cases h
   rw [← Nat.eq_of_beq_eq_true he.1]
   exact h1
  ·exact zKba h2 f gs c h
theorem zsaa {P : Program} {env : Env} {inl : Inl} {f : FuncId} {fn : Func} {code : Code} {c : CSpec} {rs : List (Nat × Option TypeId)} {lp : Loops} (hm : P.follows .mixedOrders = true ∧ EnvTy P env) (hF : EnvFn P env) (hI : InlOk P env.top inl) (hf : P.funcs[f]? = some fn) (hL : zZaa env lp inl code) (hname : (fn.name == "runtime.NumGoroutine") = false) (hb : fn.body = some code) (hr : fn.results = (rs.map toRV).toArray)
  (hn : env.n = fn.ntmps) (hlen : (Nat.ble c.ins.length fn.ntmps && (Nat.blt fn.ntmps gh0 && (Nat.beq env.b 0 && !env.df))) = true) (hrd : rvOk rs = true)
  (hev : ∀ (d : DI c.ins) (R : Type) (K : DR c.outs → DB c.ins → Option R) (Kp : PI c.pan → DB c.ins → Option R), evC env lp inl code (St.start c.ins d) (retK env c.ins c.outs rs c.pan K Kp) = c.fn d K Kp) : Holds P f c :=
 zXva hm.1 hm.2 hF hI hf hname hb hr hn hlen hL hrd fun d R K Kp res h => by rw [hev]; exact h
end Go.Trm
