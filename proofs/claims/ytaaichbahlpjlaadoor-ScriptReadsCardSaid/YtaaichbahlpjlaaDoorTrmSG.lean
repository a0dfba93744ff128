import Derived.Test.YtaaichbahlpjlaaDoorCards
import Derived.Test.YtaaichbahlpjlaaDoorTie
import Derived.SevenTiedAt
import Derived.Test.YtaaichbahlpjlaaDoorTrmGls
import Derived.Test.YtaaichbahlpjlaaDoorTrmG1
import Derived.IntWalk
import Derived.Test.YtaaichbahlpjlaaDoorTrmPt
set_option linter.unusedVariables false
set_option linter.unusedSimpArgs false
namespace Go.Proofs.YtaaichbahlpjlaaDoor.scriptReads
open Go.ChangeShapes Go.WideShapes Go.ChangeAt Go.RowKit Go.Trm Go.Trm.G1
open Go.ChangeMaps (open_string shut_string)
theorem own : ownKnob Tryd.prog.godebug = none := by kernel_rfl
theorem zaya : laidOutB Tryd.prog = true := by kernel_rfl
def Pure : Prop := ∀ (a0 : List UInt8), a0.length ≤ 140737488351232 → zdca a0 Yes = some ()
set_option maxRecDepth 100000 in
theorem zOxa (pure : Pure) (os : Os) (started : os.Started) (H : Type) (enc : TypeId × Value → H) :
  ReturnsInHanded {} Tryd.checked os 3 .any (fun w args => (Rows.scriptReadsSpec.pre enc Tryd.prog Tryd.f3 Rows.scriptReadsRow.domain false w args ∧ laidMetH Tryd.prog Rows.scriptReadsRow.laid w) ∧ sizedMet enc Tryd.prog Tryd.f3 (OpenSpec.ofChange Rows.scriptReadsSpec) false w args) (Rows.scriptReadsSpec.post enc Tryd.prog Tryd.f3 false true false false) := by
 refine zOea (C := Tryd.checked) (X := fun w _ => laidMetH Tryd.prog Rows.scriptReadsRow.laid w) (fun _ _ _ hh h => h.of_heap hh) own started (by kernel_rfl) Tryd.func3
  (ChangeSpec.witness_shaped (enc := enc) (C := Tryd.checked) (os := os) (X := fun w _ => laidMetH Tryd.prog Rows.scriptReadsRow.laid w) false (World.laidAll Tryd.prog os Rows.scriptReadsRow.laid) #[.string ByteArray.empty] 8 (World.laidAll_os _ _ _)
   (World.shaped_of_ZipB (by kernel_rfl) (by kernel_rfl)) (by kernel_rfl) (by kernel_rfl) (by kernel_rfl) (by rw [MakeChecks.laidMetH_plain _ _ _ (by kernel_rfl)]; exact laidMet_laidAll _ (by kernel_rfl) (by kernel_rfl))) ?_
 intro W base args ds gs before hval0 hW _ hsz0 hL hshape
 have hsz : (DataW.weightsEach Tryd.prog (Tryd.f3.params.toList ++ Rows.scriptReadsSpec.plain.varTypes Tryd.prog) (ds ++ gs)).all (· ≤ reachBytes) = true := hsz0
 have hval : ∀ (j : Nat) t v, Tryd.f3.params[j]? = some t → args[j]? = some v → Value.okWide Tryd.prog W .any base t v := hval0
 have hW' := hW
 obtain ⟨p, q, hA0, hV, rfl, hfz, hnd⟩ := hW
 have hA : DataW.TrodAll enc Tryd.prog W 0 (fun _ => true) true Tryd.f3.params.toList args.toList ds p := hA0
 rw [Tryd.params3] at hA hval hsz
 obtain ⟨v0, vs0, d0, ds0, p0, q0, hargs, rfl, rfl, h0, r0⟩ := trodAll_cons hA
 obtain ⟨rfl, rfl, rfl⟩ := trodAll_nil r0
 obtain rfl : args = #[v0] := by cases args; simp_all
 obtain ⟨rfl, rfl⟩ := trodVars_none hV
 obtain ⟨a0, rfl, rfl, rfl, y0⟩ := open_string Tryd.underlying9 (hval 0 9 v0 rfl rfl) h0
 have u0 : a0.data.toList.length ≤ 140737488351232 := sized_string hsz (j := 0) (t := 9) rfl rfl
 clear hA0 hval0 hsz0 hsz
 refine (zKta (fn := fun d K Kp => cs_law26_ScriptReads.fn d K Kp) zMka (d := (a0.data.toList, ())) (zjxa (by rw [← MakeChecks.laidMetH_plain _ _ _ (by kernel_rfl)]; exact hL) (by simp only [Rows.scriptReadsRow, List.mem_cons, true_or, or_true]) (by simp only [Rows.scriptReadsRow, List.mem_cons, true_or, or_true]) hshape) (zcua (zEua a0 y0) zWva) (pure a0.data.toList u0)).mono fun e W' ⟨he, bel⟩ => ?_
 subst he
 exact ⟨_, rfl, _, _, _, [], _, [], hW', trodAll_mk1 (shut_bool Tryd.underlying4 _), (trodAll_cons_mk (shut_string Tryd.underlying9 y0) trodAll_mk0), rfl, bel.frame _, fun h => by cases h⟩
theorem over (pure : Pure) : Rows.scriptReadsRow.holds Tryd.pinned (OpenSpec.ofChange Rows.scriptReadsSpec) :=
 OpenClaim.holds_of_wide 3 Tryd.f3 rfl rfl rfl rfl rfl rfl rfl ⟨rfl, rfl, rfl, rfl, rfl⟩ rfl rfl rfl rfl rfl (by kernel_rfl) Tryd.func3 (by kernel_rfl)
  (of_decide_eq_true (by kernel_rfl)) (by unfold Func.isWrapper; first | (rw [if_pos (by decide +kernel)]; kernel_rfl) | (rw [if_neg (by decide +kernel)]; exact ⟨rfl, rfl⟩))
  (fun os started H enc _ => zOxa pure os started H enc)
theorem carded (pure : Pure) : Rows.ScriptReadsCardSaid :=
 Claim7.holds_tied_plain_at .later [] Rows.scriptReadsCard.laidKinds true Rows.scriptReadsCard.stood.harness true (over pure) (fun _ h => by cases h) (by kernel_rfl) (fun _ h => by cases h) scriptReads_row_tie rfl ⟨rfl, rfl⟩ (by kernel_rfl) rfl
  (fun f fn hf hfn => by
   obtain rfl : f = 3 := Option.some.inj ((show Tryd.prog.funcNamed "trammel/trammellaw26.ScriptReads" = some 3 by kernel_rfl).symm.trans hf) |>.symm
   obtain rfl : fn = Tryd.f3 := (Option.some.inj (Tryd.func3.symm.trans hfn)).symm
   exact ⟨by kernel_rfl, fun j t ht => by
    rw [Tryd.params3] at ht
    have hm : t ∈ [9] := by simpa using Array.mem_of_getElem? ht
    have hall : ([9].all fun u => !Tryd.prog.wantsStandIn u) = true := by kernel_rfl
    exact (show Tryd.prog.wantsStandIn t = false by simpa using List.all_eq_true.1 hall t hm)⟩)
  (by kernel_rfl)
end Go.Proofs.YtaaichbahlpjlaaDoor.scriptReads
namespace Go.Trm
theorem zqaa {X R : Type} (B : (X → Option R) → X → Option R) (n : Nat) (x : X) : loopN B (n + 1) x = B (loopN B n) x := rfl
theorem ztda (k : Nat) (h : k ≤ 18446744073709551616) : ∃ m, zvfa = m + k := ⟨zvfa - k, by have := zera; omega⟩
theorem zZxa {k : Nat} (h : k < 18446744073709551616) : k < zvfa := by rw [zera]; exact h
section
variable {α : Type}
theorem zjaa {p : Prop} [Decidable p] {a b : α} : cond (decide p) a b = if p then a else b := by by_cases h : p <;> simp [h]
theorem zlja {b : Bool} {x y : α} : cond (!b) x y = cond b y x := by cases b <;> rfl
theorem zBfa {β : Type} [BEq β] [LawfulBEq β] [DecidableEq β] {u v : β} {a b : α} : cond (u == v) a b = if u = v then a else b := by
 by_cases h : u = v
 ·subst h; simp
 ·have : (u == v) = false := by simpa using h
  rw [this, if_neg h]; rfl
theorem znha {β : Type} [BEq β] [LawfulBEq β] [DecidableEq β] {u v : β} {a b : α} : cond (u != v) a b = if u = v then b else a := by
 by_cases h : u = v
 ·subst h; simp
 ·have : (u != v) = true := by simpa using h
  rw [this, if_neg h]; rfl
theorem zVaa {i : Int} {n : Nat} {a b : α} : cond (inB i n) a b = if 0 ≤ i ∧ i < n then a else b := by
 unfold inB; by_cases h0 : 0 ≤ i <;> by_cases h1 : i < n <;> simp [h0, h1]
theorem zjka {l h : Int} {n : Nat} {a b : α} : cond (inR l h n) a b = if 0 ≤ l ∧ l ≤ h ∧ h ≤ n then a else b := by
 unfold inR; by_cases h0 : 0 ≤ l <;> by_cases h1 : l ≤ h <;> by_cases h2 : h ≤ n <;> simp [h0, h1, h2]
theorem zcya {b : Bool} {x y : α} : cond b x y = if b = true then x else y := by cases b <;> rfl
end
theorem w_i64 {n : Int} (h : -9223372036854775808 ≤ n ∧ n ≤ 9223372036854775807) : IntKind.i64.wrap n = n := IntWalk.i64_in n h
theorem w_u8 {n : Int} (h : 0 ≤ n ∧ n ≤ 255) : IntKind.u8.wrap n = n := by
 have : IntKind.u8.wrap n = n % 256 := rfl
 omega
theorem w_u64 {n : Int} (h : 0 ≤ n ∧ n ≤ 18446744073709551615) : IntKind.u64.wrap n = n := by
 have : IntKind.u64.wrap n = n % 18446744073709551616 := rfl
 omega
theorem w_u32 {n : Int} (h : 0 ≤ n ∧ n ≤ 4294967295) : IntKind.u32.wrap n = n := by
 have : IntKind.u32.wrap n = n % 4294967296 := rfl
 omega
theorem zKxa (l : List UInt8) : (nums l).length = l.length := by simp [nums]
theorem zdya (l : List UInt8) (i : Int) : bt l i = (nums l).getD i.toNat 0 := by
 simp only [bt, nums, List.getD_eq_getElem?_getD, List.getElem?_map]
 cases l[i.toNat]? <;> rfl
theorem zLxa (l : List UInt8) (i : Nat) : 0 ≤ (nums l).getD i 0 ∧ (nums l).getD i 0 ≤ 255 := by
 simp only [nums, List.getD_eq_getElem?_getD, List.getElem?_map]
 cases h : l[i]? with
 | none => simp
 | some b =>
  have := b.toNat_lt
  simp only [Option.map_some, Option.getD_some]
  omega
theorem zYxa (l : List UInt8) : ∀ n ∈ nums l, IntKind.u8.has n := by
 intro n hn
 obtain ⟨b, _, rfl⟩ := List.mem_map.1 hn
 have := b.toNat_lt
 show (0 : Int) ≤ _ ∧ _ ≤ (255 : Int)
 omega
theorem zDxa (l : List UInt8) : u8s (nums l) = l := by
 simp only [u8s, nums, List.map_map]
 conv => rhs; rw [← List.map_id l]
 apply List.map_congr_left
 intro b _
 simp
theorem zJxa {l : List Int} (h : ∀ n ∈ l, IntKind.u8.has n) : nums (u8s l) = l := by
 simp only [u8s, nums, List.map_map]
 conv => rhs; rw [← List.map_id l]
 apply List.map_congr_left
 intro n hn
 obtain ⟨h0, h1⟩ := h n hn
 have h0 : (0 : Int) ≤ n := h0
 have h1 : n ≤ 255 := h1
 simp only [Function.comp, id]
 rw [UInt8.toNat_ofNat']
 omega
theorem zyxa (l : List Int) (i j : Nat) : (l.drop i).getD j 0 = l.getD (i + j) 0 := by
 simp [List.getD_eq_getElem?_getD, List.getElem?_drop]
end Go.Trm
namespace Go.Trm.G1
abbrev W := List UInt8
abbrev RS := List W × Bool × Unit
theorem bt_at (l : W) (i : Nat) : bt l (i : Int) = ((l.getD i 0).toNat : Int) := by
 simp only [bt, Int.toNat_natCast, List.getD_eq_getElem?_getD]
theorem bt_0 (b : UInt8) (l : W) : bt (b :: l) (0 : Int) = (b.toNat : Int) := rfl
def decF (acc : Nat) : W → Option Nat
 | [] => some acc
 | b :: l => if 48 ≤ b.toNat ∧ b.toNat ≤ 57 ∧ acc * 10 + (b.toNat - 48) ≤ 18446744073709551615 then decF (acc * 10 + (b.toNat - 48)) l else none
def wv : W → Option Nat
 | [] => none
 | b :: l => if b = 48 ∧ l ≠ [] then none else decF 0 (b :: l)
theorem zjoa (b : UInt8) (l : W) : wv (b :: l) = if b = 48 ∧ l ≠ [] then none else decF 0 (b :: l) := rfl
theorem zSka (acc : Nat) (b : UInt8) (l : W) : decF acc (b :: l) = if 48 ≤ b.toNat ∧ b.toNat ≤ 57 ∧ acc * 10 + (b.toNat - 48) ≤ 18446744073709551615 then decF (acc * 10 + (b.toNat - 48)) l else none := rfl
theorem zXsa : ∀ (l : W) (acc n : Nat), acc ≤ 18446744073709551615 → decF acc l = some n → n ≤ 18446744073709551615
 | [], acc, n, h, e => by simp only [decF, Option.some.injEq] at e; omega
 | b :: l, acc, n, h, e => by
  unfold decF at e
  split at e
  ·rename_i hc; exact zXsa l _ n hc.2.2 e
  ·cases e
theorem wv_le {s : W} {n : Nat} (h : wv s = some n) : n ≤ 18446744073709551615 := by
 cases s with
 | nil => cases h
 | cons b l =>
  rw [zjoa] at h
  split at h
  ·cases h
  ·exact zXsa _ 0 n (by omega) h
theorem zIua {b : UInt8} {l : W} {n : Nat} (h : wv (b :: l) = some n) : 48 ≤ b.toNat ∧ b.toNat ≤ 57 := by
 rw [zjoa] at h
 split at h
 ·cases h
 ·rw [zSka] at h
  split at h
  ·rename_i hc; exact ⟨hc.1, hc.2.1⟩
  ·cases h
theorem zTqa : ∀ (l : W) (acc : Nat), acc ≤ 18446744073709551615 → (match Lib.parseUintM (2 ^ 64 - 1) acc l with | .ok n => decF acc l = some n | _ => decF acc l = none)
 | [], acc, h => rfl
 | b :: l, acc, h => by
  unfold Lib.parseUintM decF
  by_cases h1 : 48 ≤ b.toNat ∧ b.toNat ≤ 57
  ·rw [if_pos h1]
   by_cases h2 : 1844674407370955162 ≤ acc
   ·rw [if_pos h2, if_neg (by omega)]
   ·rw [if_neg h2]
    by_cases h3 : 2 ^ 64 - 1 < acc * 10 + (b.toNat - 48)
    ·rw [if_pos h3, if_neg (by omega)]
    ·rw [if_neg h3, if_pos ⟨h1.1, h1.2, by omega⟩]
     exact zTqa l _ (by omega)
  ·rw [if_neg h1, if_neg (fun h => h1 ⟨h.1, h.2.1⟩)]
theorem zzta {s : W} (hs : s ≠ []) : (∃ n, decF 0 s = some n ∧ zaka s = ((n : Int), false)) ∨ (decF 0 s = none ∧ (zaka s).2 = true) := by
 have h := zTqa s 0 (by omega)
 unfold zaka Lib.parseUintB
 rw [if_neg hs]
 cases hp : Lib.parseUintM (2 ^ 64 - 1) 0 s with
 | ok n => rw [hp] at h; exact .inl ⟨n, h, rfl⟩
 | «syntax» => rw [hp] at h; exact .inr ⟨h, rfl⟩
 | range => rw [hp] at h; exact .inr ⟨h, rfl⟩
section
variable {R : Type}
theorem zyqa (x : Int) (K : Bool → Option R) : zmca x K = K (decide (48 ≤ x ∧ x ≤ 57)) := by
 unfold zmca
 simp only [zjaa]
 by_cases h1 : 48 ≤ x
 ·rw [if_pos (show x ≥ 48 from h1)]
  by_cases h2 : x ≤ 57 <;> simp [h1, h2]
 ·rw [if_neg (show ¬ x ≥ 48 from h1)]
  simp [h1]
def nextM : RS → W × RS
 | ([], _, u) => ([], ([], true, u))
 | (w :: ws, b, u) => (w, (ws, b, u))
theorem znpa (a : RS) (K : Bool → RS → Option R) : zgaa a K = K (!a.1.isEmpty) a := by
 unfold zgaa
 obtain ⟨ws, b⟩ := a
 cases ws with
 | nil => rfl
 | cons w ws =>
  have : decide (((List.length (w :: ws) : Nat) : Int) > 0) = true := by simp only [List.length_cons, decide_eq_true_eq]; omega
  simp only [this]
  rfl
theorem zmla {α : Type} (x : α) (l : List α) : rng (x :: l) (1 : Int) ((List.length (x :: l) : Nat) : Int) = l := by
 simp only [rng, Int.toNat_natCast, List.take_length]
 rfl
theorem zooa (a : RS) (K : W → RS → Option R) : zpaa a K = K (nextM a).1 (nextM a).2 := by
 unfold zpaa
 rw [znpa]
 obtain ⟨ws, b, u⟩ := a
 cases ws with
 | nil => rfl
 | cons w ws =>
  simp only [List.isEmpty_cons, zVaa, zjka, zmla, Bool.not_false, Bool.not_true, cond_false]
  rw [if_pos (by simp only [List.length_cons]; omega), if_pos (by simp only [List.length_cons]; omega)]
  rfl
def isM (w : W) : RS → Bool × RS
 | ([], b, u) => (false, ([], b, u))
 | (x :: ws, b, u) => if x = w then (true, (ws, b, u)) else (false, (x :: ws, b, u))
theorem is_eq (a : RS) (w : W) (K : Bool → RS → Option R) : zeaa a w K = K (isM w a).1 (isM w a).2 := by
 unfold zeaa
 rw [znpa]
 obtain ⟨ws, b, u⟩ := a
 cases ws with
 | nil => rfl
 | cons x ws =>
  simp only [List.isEmpty_cons, zVaa, Bool.not_false, Bool.not_true, cond_false, zlja, zooa]
  rw [if_pos (by simp only [List.length_cons]; omega)]
  simp only [show (0 : Int).toNat = 0 from rfl, List.getD_cons_zero, zBfa, isM]
  by_cases h : x = w
  ·rw [if_pos h, if_pos h]; rfl
  ·rw [if_neg h, if_neg h]
def zrha (a : RS) : Int × RS := match wv (nextM a).1 with
 | some n => ((n : Int), (nextM a).2)
 | none => (0, ((nextM a).2.1, (true, (nextM a).2.2.2)))
abbrev small (ws : List W) : Prop := ∀ w ∈ ws, w ≠ [] ∧ w.length ≤ most
theorem zmpa {a : RS} (h : small a.1) : small (nextM a).2.1 ∧ (nextM a).1.length ≤ most := by
 obtain ⟨ws, b, u⟩ := a
 cases ws with
 | nil => exact ⟨h, by simp [nextM]⟩
 | cons w ws => exact ⟨fun x hx => h x (List.mem_cons_of_mem _ hx), (h w List.mem_cons_self).2⟩
theorem zQpa (a : RS) (h : small a.1) (K : Int → RS → Option R) : zGaa a K = K (zrha a).1 (zrha a).2 := by
 unfold zGaa zrha
 rw [zooa]
 have hl := (zmpa h).2
 generalize (nextM a).2 = b
 generalize (nextM a).1 = s at hl
 simp only [zPfa, zNia]
 rw [show ((10 : Int) == 10 && (64 : Int) == 64 && decide (s.length ≤ most)) = true by simp [hl]]
 simp only [cond_true]
 cases s with
 | nil => rfl
 | cons c l =>
  rcases zzta (s := c :: l) (by simp) with ⟨n, h1, h2⟩ | ⟨h1, h2⟩
  ·rw [h2]
   have hd : 48 ≤ c.toNat ∧ c.toNat ≤ 57 := by
    have h3 := h1
    rw [zSka] at h3
    split at h3
    ·rename_i hc; exact ⟨hc.1, hc.2.1⟩
    ·cases h3
   simp only [cond_false, zVaa, zyqa, bt_0]
   rw [if_pos (by simp only [List.length_cons]; omega), if_pos (by simp only [List.length_cons]; omega)]
   rw [show decide ((48 : Int) ≤ (c.toNat : Int) ∧ (c.toNat : Int) ≤ 57) = true by simp only [decide_eq_true_eq]; omega]
   simp only [Bool.not_true, cond_false, zBfa, zjaa]
   rw [zjoa]
   by_cases h4 : c = 48
   ·subst h4
    rw [if_pos (by rfl)]
    cases l with
    | nil =>
     rw [if_neg (by simp), if_neg (by simp), h1]
    | cons y l =>
     rw [if_pos (by simp only [List.length_cons]; omega), if_pos (by simp)]
   ·rw [if_neg (fun hc => h4 (UInt8.toNat_inj.1 (by show c.toNat = 48; omega))), if_neg (fun hc => h4 hc.1), h1]
  ·have : wv (c :: l) = none := by
    rw [zjoa]
    split
    ·rfl
    ·exact h1
   rw [h2, this]
   rfl
def zCea (a : RS) : Int × RS := if (zrha a).1 ≥ 4294967296 then (0, ((zrha a).2.1, (true, (zrha a).2.2.2))) else zrha a
theorem zjta (a : RS) : 0 ≤ (zrha a).1 := by
 unfold zrha
 split
 ·simp
 ·exact Int.le_refl _
theorem zxha (a : RS) (h : small a.1) (K : Int → RS → Option R) : zbaa a K = K (zCea a).1 (zCea a).2 := by
 unfold zbaa zCea
 rw [zQpa a h]
 have := zjta a
 simp only [zjaa]
 split
 ·rfl
 ·rw [w_i64 (by omega)]
end
end Go.Trm.G1
namespace Go.Trm.G1
def hexD (b : UInt8) : Option Nat := if 48 ≤ b.toNat ∧ b.toNat ≤ 57 then some (b.toNat - 48) else if 97 ≤ b.toNat ∧ b.toNat ≤ 102 then some (b.toNat - 87) else none
abbrev zzwa : W := [48, 49, 50, 51, 52, 53, 54, 55, 56, 57, 97, 98, 99, 100, 101, 102]
theorem zRta : ∀ n : Fin 256, Lib.indexByte zzwa (UInt8.ofNat n.val) = match hexD (UInt8.ofNat n.val) with | some n => (n : Int) | none => -1 := by decide +kernel
theorem zYqa (b : UInt8) : Lib.indexByte zzwa b = match hexD b with | some n => (n : Int) | none => -1 := by
 have h := zRta ⟨b.toNat, b.toNat_lt⟩
 simp only [UInt8.ofNat_toNat] at h
 exact h
theorem zbra {b : UInt8} {n : Nat} (h : hexD b = some n) : n ≤ 15 := by
 unfold hexD at h
 split at h
 ·cases h; omega
 ·split at h
  ·cases h; omega
  ·cases h
def hexs : W → Option (List Int)
 | [] => some []
 | [_] => none
 | a :: b :: l => match hexD a, hexD b, hexs l with
  | some x, some y, some r => some (((16 * x + y : Nat) : Int) :: r)
  | _, _, _ => none
def hexW (s : W) : Option (List Int) := if s = [] then none else hexs s
theorem zSma (a b : UInt8) (l : W) : hexs (a :: b :: l) = match hexD a, hexD b, hexs l with
  | some x, some y, some r => some (((16 * x + y : Nat) : Int) :: r)
  | _, _, _ => none := rfl
theorem zOsa : ∀ (n : Nat) (l : W), l.length ≤ n → l.length % 2 ≠ 0 → hexs l = none := by
 intro n
 induction n with
 | zero => intro l h1 h2; omega
 | succ n ih =>
  intro l h1 h2
  match l with
  | [] => simp at h2
  | [_] => rfl
  | a :: b :: l =>
   simp only [List.length_cons] at h1 h2
   rw [zSma, ih l (by omega) (by omega)]
   split
   ·rename_i h; cases h
   ·rfl
section
variable {R : Type}
theorem ziea {α : Type} (l : List α) (i : Nat) (d : α) (h : i < l.length) : l.drop i = l.getD i d :: l.drop (i + 1) := by
 rw [List.drop_eq_getElem_cons h, List.getD_eq_getElem?_getD, List.getElem?_eq_getElem h, Option.getD_some]
theorem ziua (b : UInt8) : ((b.toNat : Nat) : Int).toNat.toUInt8 = b := by simp
theorem zCva (kr : List Int → RS → Option R) (kx : List Int → RS → Option R) (s : W) (b : RS) (he : s.length % 2 = 0) (hs : s.length ≤ most) :
  ∀ (n i : Nat) (out : List Int), s.length ≤ i + n → i ≤ s.length → i % 2 = 0 → out.length ≤ i → loopN (zKaa kr kx) (n + 1) ⟨s, out, (i : Int), b⟩ =
   match hexs (s.drop i) with | some r => kx (out ++ r) b | none => kr [] (b.1, (true, b.2.2)) := by
 intro n
 induction n with
 | zero =>
  intro i out h1 h2 h3 h4
  rw [zqaa]
  unfold zKaa
  simp only [zjaa]
  rw [if_neg (by omega), List.drop_of_length_le (by omega)]
  simp [hexs]
 | succ n ih =>
  intro i out h1 h2 h3 h4
  have hm : most = 4294967296 := rfl
  rw [zqaa]
  generalize hrec : loopN (zKaa kr kx) (n + 1) = rec at ih ⊢
  unfold zKaa
  simp only [zjaa, zVaa, zida, zOia]
  by_cases hi : i < s.length
  ·rw [if_pos (by omega), if_pos ⟨by omega, by omega⟩, w_i64 (by omega), if_pos ⟨by omega, by omega⟩, show (i : Int) + 1 = ((i + 1 : Nat) : Int) by omega, bt_at, bt_at, ziua, ziua, zYqa, zYqa]
   rw [ziea s i 0 hi, ziea s (i + 1) 0 (by omega), zSma]
   cases h5 : hexD (s.getD i 0) with
   | none => simp only; rw [if_pos (by omega)]
   | some x =>
    have hx := zbra h5
    rw [if_neg (by simp only; omega)]
    cases h6 : hexD (s.getD (i + 1) 0) with
    | none => simp only; rw [if_pos (by omega)]
    | some y =>
     have hy := zbra h6
     simp only
     rw [if_neg (by omega), if_pos (by simp only [List.length_set, List.length_replicate]; omega)]
     rw [w_i64 (n := (i : Int) + 2) (by omega), show (i : Int) + 2 = ((i + 2 : Nat) : Int) by omega]
     rw [w_i64 (n := (16 : Int) * (x : Int)) (by omega), w_i64 (n := (16 : Int) * (x : Int) + (y : Int)) (by omega), w_u8 (by omega)]
     rw [ih (i + 2) _ (by omega) (by omega) (by omega) (by simp only [List.length_append, List.length_set, List.length_replicate]; omega)]
     cases hexs (s.drop (i + 2)) with
     | none => rfl
     | some r =>
      simp only [List.append_assoc]
      rw [show ((16 * x + y : Nat) : Int) = (16 : Int) * (x : Int) + (y : Int) by omega]
      rfl
  ·rw [if_neg (by omega), List.drop_of_length_le (by omega)]
   simp [hexs]
def hexM (a : RS) : List Int × RS := match hexW (nextM a).1 with
 | some l => (l, (nextM a).2)
 | none => ([], ((nextM a).2.1, (true, (nextM a).2.2.2)))
theorem zgxa (a : RS) (h : small a.1) (K : List Int → RS → Option R) : zyaa a K = K (hexM a).1 (hexM a).2 := by
 unfold zyaa hexM
 rw [zooa]
 have hl := (zmpa h).2
 generalize (nextM a).2 = b
 generalize (nextM a).1 = s at hl
 have hm : most = 4294967296 := rfl
 simp only [zBfa, znha]
 by_cases h0 : s = []
 ·subst h0; rw [if_pos (by rfl)]; rfl
 have hp : 0 < s.length := by cases s <;> simp at h0 ⊢
 rw [if_neg (by omega), if_neg (by decide)]
 unfold hexW
 rw [if_neg h0]
 have ht : Int.tmod ((s.length : Nat) : Int) 2 = ((s.length % 2 : Nat) : Int) := rfl
 rw [ht]
 by_cases h1 : s.length % 2 = 0
 ·rw [if_pos (by omega)]
  obtain ⟨m, hf⟩ := ztda (s.length + 1) (by omega)
  rw [hf]
  have := zCva (R := R) (fun w8 w9 => K w8 w9) (fun w10 w11 => K w10 w11) s b h1 hl (m + s.length) 0 [] (by omega) (by omega) rfl (by simp)
  refine Eq.trans this ?_
  rw [List.drop_zero]
  cases hexs s <;> rfl
 ·rw [if_neg (by omega), zOsa _ s (Nat.le_refl _) h1]
def nameC (b : UInt8) : Bool := (48 ≤ b.toNat && b.toNat ≤ 57) || b.toNat == 95 || (97 ≤ b.toNat && b.toNat ≤ 122)
def zJoa (s : W) : Bool := decide (1 ≤ s.length) && decide (s.length ≤ 16) && s.all nameC
theorem zDsa (kr : Bool → Option R) (kx : Option R) (s : W) (hs : s.length ≤ 16) :
  ∀ (n i : Nat), s.length ≤ i + n → i ≤ s.length → loopN (zIba kr kx) (n + 1) ⟨s, ((s.length : Nat) : Int), (i : Int)⟩ = cond ((s.drop i).all nameC) kx (kr false) := by
 intro n
 induction n with
 | zero =>
  intro i h1 h2
  rw [zqaa]
  unfold zIba
  simp only [zjaa]
  rw [if_neg (by omega), List.drop_of_length_le (by omega)]
  rfl
 | succ n ih =>
  intro i h1 h2
  rw [zqaa]
  generalize loopN (zIba kr kx) (n + 1) = rec at ih ⊢
  unfold zIba
  simp only [zjaa, zVaa, zyqa, zlja, znha]
  by_cases hi : i < s.length
  ·rw [if_pos (by omega), if_pos ⟨by omega, by omega⟩, w_i64 (by omega), show (i : Int) + 1 = ((i + 1 : Nat) : Int) by omega, bt_at, ih (i + 1) (by omega) (by omega), ziea s i 0 hi]
   generalize s.getD i 0 = b
   rw [List.all_cons]
   have e : nameC b = decide ((48 ≤ b.toNat ∧ b.toNat ≤ 57) ∨ b.toNat = 95 ∨ (97 ≤ b.toNat ∧ b.toNat ≤ 122)) := by
    unfold nameC
    rw [Bool.eq_iff_iff]
    simp only [Bool.or_eq_true, Bool.and_eq_true, decide_eq_true_eq, beq_iff_eq]
    omega
   rw [e]
   generalize List.all (s.drop (i + 1)) nameC = z
   by_cases c1 : 48 ≤ b.toNat ∧ b.toNat ≤ 57
   ·rw [if_pos (by omega), decide_eq_true (by omega)]; rfl
   ·rw [if_neg (by omega)]
    by_cases c2 : b.toNat = 95
    ·rw [if_pos (by omega), decide_eq_true (by omega)]; rfl
    ·rw [if_neg (by omega)]
     by_cases c3 : 97 ≤ b.toNat
     ·rw [if_neg (by omega)]
      by_cases c4 : b.toNat ≤ 122
      ·rw [if_neg (by omega), decide_eq_true (by omega)]; rfl
      ·rw [if_pos (by omega), decide_eq_false (by omega)]; rfl
     ·rw [if_pos (by omega), decide_eq_false (by omega)]; rfl
  ·rw [if_neg (by omega), List.drop_of_length_le (by omega)]
   rfl
theorem zkva (s : W) (K : Bool → Option R) : zdfa s K = K (zJoa s) := by
 unfold zdfa zJoa
 simp only [zjaa]
 by_cases h1 : 1 ≤ s.length
 ·rw [if_neg (by omega)]
  by_cases h2 : s.length ≤ 16
  ·rw [if_neg (by omega)]
   obtain ⟨m, hf⟩ := ztda (s.length + 1) (by omega)
   rw [hf]
   refine Eq.trans (zDsa (R := R) (fun w => K w) (K true) s h2 (m + s.length) 0 (by omega) (by omega)) ?_
   rw [List.drop_zero, decide_eq_true h1, decide_eq_true h2]
   cases s.all nameC <;> rfl
  ·rw [if_pos (by omega), decide_eq_false h2]; simp
 ·rw [if_pos (by omega), decide_eq_false h1]; simp
def nameM (a : RS) : W × RS := ((nextM a).1, ((nextM a).2.1, ((nextM a).2.2.1 || !zJoa (nextM a).1, (nextM a).2.2.2)))
theorem zxua (a : RS) (K : W → RS → Option R) : zdba a K = K (nameM a).1 (nameM a).2 := by
 unfold zdba nameM
 rw [zooa]
 generalize (nextM a).2 = b
 generalize (nextM a).1 = s
 obtain ⟨ws, b, u⟩ := b
 cases b with
 | true => rfl
 | false => simp only [cond_false, zkva, Bool.false_or]
def digB (w : W) : Bool := match w with | [] => false | b :: _ => decide (48 ≤ b.toNat ∧ b.toNat ≤ 57)
def valsM : List W → Bool → Unit → List Int × RS
 | [], b, u => ([], ([], b, u))
 | w :: ws, b, u => match digB w with
  | true => match wv w with
   | some n => ((n : Int) :: (valsM ws b u).1, (valsM ws b u).2)
   | none => (0 :: (valsM ws true u).1, (valsM ws true u).2)
  | false => ([], (w :: ws, b, u))
def zFja (a : RS) : List Int × RS := ((valsM a.1 a.2.1 a.2.2).1, ((valsM a.1 a.2.1 a.2.2).2.1, ((valsM a.1 a.2.1 a.2.2).2.2.1 || decide ((valsM a.1 a.2.1 a.2.2).1.length > 8), (valsM a.1 a.2.1 a.2.2).2.2.2)))
theorem zkta (kx : List Int → RS → Option R) : ∀ (n : Nat) (ws : List W) (b : Bool) (u : Unit) (out : List Int), ws.length ≤ n → small ws → out.length + ws.length ≤ most →
  loopN (zvaa kx) (n + 1) ⟨out, (ws, b, u)⟩ = kx (out ++ (valsM ws b u).1) (valsM ws b u).2 := by
 intro n
 induction n with
 | zero =>
  intro ws b u out h1 h2 h3
  obtain rfl : ws = [] := List.eq_nil_of_length_eq_zero (by omega)
  rw [zqaa]
  unfold zvaa
  rw [znpa]
  simp [valsM]
 | succ n ih =>
  intro ws b u out h1 h2 h3
  rw [zqaa]
  generalize loopN (zvaa kx) (n + 1) = rec at ih ⊢
  unfold zvaa
  rw [znpa]
  cases ws with
  | nil => simp [valsM]
  | cons w ws =>
   have hw := h2 w List.mem_cons_self
   cases w with
   | nil => exact absurd rfl hw.1
   | cons c l =>
    simp only [List.isEmpty_cons, Bool.not_false, cond_true, zVaa, show (0 : Int).toNat = 0 from rfl, List.getD_cons_zero, bt_0, zyqa]
    rw [if_pos (by simp only [List.length_cons]; omega), if_pos (by simp only [List.length_cons]; omega)]
    have hd : decide ((48 : Int) ≤ (c.toNat : Int) ∧ (c.toNat : Int) ≤ 57) = digB (c :: l) := by
     unfold digB
     rw [Bool.eq_iff_iff]; simp only [decide_eq_true_eq]; omega
    rw [hd, zQpa _ h2]
    unfold valsM
    cases digB (c :: l) with
    | false => simp
    | true =>
     simp only [List.length_cons] at h1 h3
     simp only [cond_true, zjaa]
     rw [if_pos (by simp only [List.length_set, List.length_replicate]; omega)]
     have hws : small ws := fun x hx => h2 x (List.mem_cons_of_mem _ hx)
     cases hv : wv (c :: l) with
     | none =>
      have e : zrha ((c :: l) :: ws, b, u) = (0, (ws, true, u)) := by simp only [zrha, nextM, hv]
      rw [e, ih ws true u _ (by omega) hws (by simp only [List.length_append, List.length_set, List.length_replicate]; omega)]
      simp
     | some m =>
      have e : zrha ((c :: l) :: ws, b, u) = ((m : Int), (ws, b, u)) := by simp only [zrha, nextM, hv]
      rw [e, ih ws b u _ (by omega) hws (by simp only [List.length_append, List.length_set, List.length_replicate]; omega)]
      simp
theorem zCqa (a : RS) (h : small a.1) (hl : a.1.length ≤ most) (K : List Int → RS → Option R) : zPaa a K = K (zFja a).1 (zFja a).2 := by
 unfold zPaa zFja
 obtain ⟨ws, b, u⟩ := a
 have hm : most = 4294967296 := rfl
 simp only at hl
 obtain ⟨m, hf⟩ := ztda (ws.length + 1) (by omega)
 rw [hf]
 refine Eq.trans (zkta _ (m + ws.length) ws b u [] (by omega) h (by simpa using hl)) ?_
 simp only [List.nil_append]
 generalize valsM ws b u = q
 obtain ⟨l, ws', b', u'⟩ := q
 cases b' with
 | true => rfl
 | false =>
  simp only [cond_false, Bool.false_or]
  rw [show decide (((l.length : Nat) : Int) > 8) = decide (l.length > 8) by rw [Bool.eq_iff_iff]; simp only [decide_eq_true_eq]; omega]
end
end Go.Trm.G1
namespace Go.Trm.G1
abbrev Ok (a : RS) : Prop := small a.1 ∧ a.1.length ≤ most
abbrev PS (α : Type) := List W → Option (α × List W)
abbrev MS (α : Type) := RS → α × RS
def Sm {α : Type} (f : MS α) : Prop := ∀ a, Ok a → Ok (f a).2
def Rd {α : Type} (f : MS α) (P : PS α) : Prop := (∀ ws u, match P ws with
 | some (x, ws') => f (ws, false, u) = (x, (ws', false, u))
 | none => (f (ws, false, u)).2.2.1 = true) ∧ ∀ ws u, (f (ws, true, u)).2.2.1 = true
def bindM {α β : Type} (f : MS α) (g : α → MS β) : MS β := fun a => g (f a).1 (f a).2
def bindP {α β : Type} (P : PS α) (Q : α → PS β) : PS β := fun ws => match P ws with
 | some (x, ws') => Q x ws'
 | none => none
def retM {α : Type} (x : α) : MS α := fun a => (x, a)
def retP {α : Type} (x : α) : PS α := fun ws => some (x, ws)
theorem Rd.bind {α β : Type} {f : MS α} {P : PS α} {g : α → MS β} {Q : α → PS β} (h : Rd f P) (k : ∀ x, Rd (g x) (Q x)) : Rd (bindM f g) (bindP P Q) := by
 refine ⟨fun ws u => ?_, fun ws u => ?_⟩
 ·have h1 := h.1 ws u
  unfold bindM bindP
  cases hp : P ws with
  | some q =>
   rw [hp] at h1
   obtain ⟨x, ws'⟩ := q
   simp only at h1 ⊢
   rw [h1]
   exact (k x).1 ws' u
  | none =>
   rw [hp] at h1
   simp only at h1 ⊢
   generalize f (ws, false, u) = q at h1
   obtain ⟨x, ws', b, u'⟩ := q
   simp only at h1
   subst h1
   exact (k x).2 ws' u'
 ·have h1 := h.2 ws u
  unfold bindM
  generalize f (ws, true, u) = q at h1
  obtain ⟨x, ws', b, u'⟩ := q
  simp only at h1
  subst h1
  exact (k x).2 ws' u'
theorem Rd.ret {α : Type} (x : α) : Rd (retM x) (retP x) := ⟨fun _ _ => rfl, fun _ _ => rfl⟩
theorem Rd.ite {α : Type} {f g : MS α} {P Q : PS α} (c : Bool) (h : Rd f P) (k : Rd g Q) : Rd (cond c f g) (cond c P Q) := by cases c <;> first | exact h | exact k
theorem Sm.bind {α β : Type} {f : MS α} {g : α → MS β} (h : Sm f) (k : ∀ x, Sm (g x)) : Sm (bindM f g) := fun a ha => k _ _ (h a ha)
theorem Sm.ret {α : Type} (x : α) : Sm (retM x) := fun _ ha => ha
theorem Sm.ite {α : Type} {f g : MS α} (c : Bool) (h : Sm f) (k : Sm g) : Sm (cond c f g) := by cases c <;> first | exact h | exact k
theorem zlpa {w : W} {ws : List W} {b : Bool} {u : Unit} (h : Ok (w :: ws, b, u)) (b' : Bool) : Ok (ws, b', u) := ⟨fun x hx => h.1 x (List.mem_cons_of_mem _ hx), by have := h.2; simp only [List.length_cons] at this ⊢; omega⟩
theorem zGqa {a : RS} (h : Ok a) : Ok (nextM a).2 := by
 obtain ⟨ws, b, u⟩ := a
 cases ws with
 | nil => exact h
 | cons w ws => exact zlpa h b
def wordP {α : Type} (p : W → Option α) : PS α
 | [] => none
 | w :: ws => match p w with
  | some x => some (x, ws)
  | none => none
theorem zgpa {α : Type} {f : MS α} {p : W → Option α} (h0 : p [] = none) (h : ∀ a, match p (nextM a).1 with
  | some x => f a = (x, (nextM a).2)
  | none => (f a).2.2.1 = true) : Rd f (wordP p) := by
 refine ⟨fun ws u => ?_, fun ws u => ?_⟩
 ·have h1 := h (ws, false, u)
  cases ws with
  | nil => simp only [nextM, h0] at h1; exact h1
  | cons w ws =>
   simp only [nextM, wordP] at h1 ⊢
   cases hp : p w with
   | some x => rw [hp] at h1; exact h1
   | none => rw [hp] at h1; exact h1
 ·have h1 := h (ws, true, u)
  cases ws with
  | nil => simp only [nextM, h0] at h1; exact h1
  | cons w ws =>
   simp only [nextM] at h1
   cases hp : p w with
   | some x => rw [hp] at h1; simp only at h1; rw [h1]
   | none => rw [hp] at h1; exact h1
def valT (w : W) : Option Int := (wv w).map fun n => (n : Int)
def numT (w : W) : Option Int := match wv w with
 | some n => if n ≥ 4294967296 then none else some (n : Int)
 | none => none
theorem rd_value : Rd zrha (wordP valT) := zgpa rfl fun a => by
 unfold zrha valT
 cases wv (nextM a).1 <;> rfl
theorem rd_number : Rd zCea (wordP numT) := zgpa rfl fun a => by
 unfold zCea zrha numT
 cases wv (nextM a).1 with
 | none => rfl
 | some n =>
  simp only
  by_cases h : n ≥ 4294967296
  ·rw [if_pos h, if_pos (by omega)]
  ·rw [if_neg h, if_neg (by omega)]
theorem rd_hex : Rd hexM (wordP hexW) := zgpa rfl fun a => by
 unfold hexM
 cases hexW (nextM a).1 <;> rfl
def nameT (w : W) : Option W := if zJoa w then some w else none
theorem rd_name : Rd nameM (wordP nameT) := zgpa rfl fun a => by
 unfold nameM nameT
 cases h : zJoa (nextM a).1 with
 | true =>
  simp only [if_true, Bool.not_true, Bool.or_false]
 | false => simp
theorem sm_value : Sm zrha := fun a ha => by
 have := zGqa ha
 unfold zrha
 split <;> exact this
theorem sm_number : Sm zCea := fun a ha => by
 have := sm_value a ha
 unfold zCea
 split <;> exact this
theorem sm_hex : Sm hexM := fun a ha => by
 have := zGqa ha
 unfold hexM
 split <;> exact this
theorem zywa : Sm nameM := fun a ha => zGqa ha
def isP (w : W) : PS Bool
 | [] => some (false, [])
 | x :: ws => if x = w then some (true, ws) else some (false, x :: ws)
theorem rd_is (w : W) : Rd (isM w) (isP w) := by
 refine ⟨fun ws u => ?_, fun ws u => ?_⟩
 ·cases ws with
  | nil => rfl
  | cons x ws => unfold isP isM; by_cases h : x = w <;> simp [h]
 ·cases ws with
  | nil => rfl
  | cons x ws => unfold isM; by_cases h : x = w <;> simp [h]
theorem sm_is (w : W) : Sm (isM w) := fun a ha => by
 obtain ⟨ws, b, u⟩ := a
 cases ws with
 | nil => exact ha
 | cons x ws =>
  unfold isM
  by_cases h : x = w
  ·simp only [h, if_true]; exact zlpa ha b
  ·simp only [h, if_false]; exact ha
def valsP : PS (List Int)
 | [] => some ([], [])
 | w :: ws => match digB w with
  | true => match wv w, valsP ws with
   | some n, some (l, r) => some ((n : Int) :: l, r)
   | _, _ => none
  | false => some ([], w :: ws)
def zwga : PS (List Int) := fun ws => match valsP ws with
 | some (l, r) => if l.length > 8 then none else some (l, r)
 | none => none
theorem zRpa : ∀ (ws : List W) (u : Unit), (valsM ws true u).2.2.1 = true
 | [], _ => rfl
 | w :: ws, u => by
  unfold valsM
  split
  ·split <;> exact zRpa ws u
  ·rfl
theorem zgua : ∀ (ws : List W) (u : Unit), match valsP ws with
  | some (x, ws') => valsM ws false u = (x, (ws', false, u))
  | none => (valsM ws false u).2.2.1 = true
 | [], _ => rfl
 | w :: ws, u => by
  have ih := zgua ws u
  unfold valsM valsP
  cases digB w with
  | false => rfl
  | true =>
   simp only
   cases wv w with
   | none => exact zRpa ws u
   | some n =>
    cases hp : valsP ws with
    | none => rw [hp] at ih; exact ih
    | some q => rw [hp] at ih; simp only at ih ⊢; rw [ih]
theorem rd_values : Rd zFja zwga := by
 refine ⟨fun ws u => ?_, fun ws u => ?_⟩
 ·have h := zgua ws u
  unfold zwga zFja
  cases hp : valsP ws with
  | none => rw [hp] at h; simp only at h ⊢; rw [h]; rfl
  | some q =>
   rw [hp] at h
   obtain ⟨l, r⟩ := q
   simp only at h ⊢
   rw [h]
   by_cases hl : l.length > 8 <;> simp [hl]
 ·unfold zFja
  simp only
  rw [zRpa]
  rfl
theorem zYra : ∀ (ws : List W) (b : Bool) (u : Unit), Ok (ws, b, u) → Ok (valsM ws b u).2
 | [], b, u, h => h
 | w :: ws, b, u, h => by
  unfold valsM
  split
  ·split
   ·exact zYra ws b u (zlpa h b)
   ·exact zYra ws true u (zlpa h true)
  ·exact h
theorem sm_values : Sm zFja := fun a ha => zYra a.1 a.2.1 a.2.2 ha
def typeT (w : W) : Option Int := if w = [105, 51, 50] then some 127 else if w = [105, 54, 52] then some 126 else none
def typeM (a : RS) : Int × RS := match typeT (nextM a).1 with
 | some t => (t, (nextM a).2)
 | none => (0, ((nextM a).2.1, (true, (nextM a).2.2.2)))
theorem rd_type : Rd typeM (wordP typeT) := zgpa rfl fun a => by
 unfold typeM
 cases typeT (nextM a).1 <;> rfl
theorem sm_type : Sm typeM := fun a ha => by
 have := zGqa ha
 unfold typeM
 split <;> exact this
section
variable {R : Type}
theorem ztwa (a : RS) (K : Int → RS → Option R) : zfba a K = K (typeM a).1 (typeM a).2 := by
 unfold zfba typeM typeT
 rw [zooa]
 simp only [zBfa]
 by_cases h1 : (nextM a).1 = [105, 51, 50]
 ·rw [if_pos h1, if_pos h1]
 ·rw [if_neg h1, if_neg h1]
  by_cases h2 : (nextM a).1 = [105, 54, 52]
  ·rw [if_pos h2, if_pos h2]
  ·rw [if_neg h2, if_neg h2]
end
abbrev zLma := (Int) × (Bool) × (Int) × (Int) × (Bool) × (Int) × Unit
abbrev zbpa : W := [116, 97, 98, 108, 101]
abbrev zrna : W := [109, 101, 109, 111, 114, 121]
abbrev maxW : W := [109, 97, 120]
abbrev varW : W := [118, 97, 114]
abbrev growW : W := [103, 114, 111, 119]
abbrev trapW : W := [116, 114, 97, 112]
abbrev giveW : W := [103, 105, 118, 101]
abbrev atW : W := [97, 116]
def sizeM : MS zLma := bindM zCea fun n => bindM (isM maxW) fun m => cond m (bindM zCea fun x => retM (n, (true, (x, (0, (false, (0, ()))))))) (retM (n, (false, (0, (0, (false, (0, ())))))))
def sizeP : PS zLma := bindP (wordP numT) fun n => bindP (isP maxW) fun m => cond m (bindP (wordP numT) fun x => retP (n, (true, (x, (0, (false, (0, ()))))))) (retP (n, (false, (0, (0, (false, (0, ())))))))
def zDra : MS zLma := bindM (isM zbpa) fun t => cond t sizeM (bindM (isM zrna) fun m => cond m sizeM (bindM (isM varW) fun v => bindM typeM fun t => bindM zrha fun n => retM (0, (false, (0, (t, (v, (n, ()))))))))
def zNka : PS zLma := bindP (isP zbpa) fun t => cond t sizeP (bindP (isP zrna) fun m => cond m sizeP (bindP (isP varW) fun v => bindP (wordP typeT) fun t => bindP (wordP valT) fun n => retP (0, (false, (0, (t, (v, (n, ()))))))))
theorem zqua : Rd sizeM sizeP := rd_number.bind fun _ => (rd_is _).bind fun m => .ite m (rd_number.bind fun _ => .ret _) (.ret _)
theorem rd_given : Rd zDra zNka := (rd_is _).bind fun t => .ite t zqua ((rd_is _).bind fun m => .ite m zqua ((rd_is _).bind fun _ => rd_type.bind fun _ => rd_value.bind fun _ => .ret _))
theorem zkua : Sm sizeM := sm_number.bind fun _ => (sm_is _).bind fun m => .ite m (sm_number.bind fun _ => .ret _) (.ret _)
theorem zExa : Sm zDra := (sm_is _).bind fun t => .ite t zkua ((sm_is _).bind fun m => .ite m zkua ((sm_is _).bind fun _ => sm_type.bind fun _ => sm_value.bind fun _ => .ret _))
abbrev zYaa := (Bool) × (Bool) × (List (Int)) × (Int) × (List (Int)) × Unit
def neM (l : List Int) : MS (List Int) := fun a => (l, (a.1, (a.2.1 || l.isEmpty, a.2.2)))
def neP (l : List Int) : PS (List Int) := fun ws => if l = [] then none else some (l, ws)
theorem rd_ne (l : List Int) : Rd (neM l) (neP l) := by
 refine ⟨fun ws u => ?_, fun ws u => rfl⟩
 unfold neP neM
 cases l <;> rfl
theorem sm_ne (l : List Int) : Sm (neM l) := fun a ha => ha
def zIva (v : Bool) : MS (List Int) := cond v (bindM zFja neM) (retM [])
def zkxa (v : Bool) : PS (List Int) := cond v (bindP zwga neP) (retP [])
def zuoa : MS zYaa := bindM (isM growW) fun g => bindM (isM trapW) fun t => bindM (isM giveW) fun v => bindM (zIva v) fun l => bindM (isM atW) fun k => cond k (bindM zCea fun n => bindM hexM fun h => retM (g, (t, (l, (n, (h, ())))))) (retM (g, (t, (l, (0, ([], ()))))))
def zfma : PS zYaa := bindP (isP growW) fun g => bindP (isP trapW) fun t => bindP (isP giveW) fun v => bindP (zkxa v) fun l => bindP (isP atW) fun k => cond k (bindP (wordP numT) fun n => bindP (wordP hexW) fun h => retP (g, (t, (l, (n, (h, ())))))) (retP (g, (t, (l, (0, ([], ()))))))
theorem rd_choice : Rd zuoa zfma := (rd_is _).bind fun _ => (rd_is _).bind fun _ => (rd_is _).bind fun v => (Rd.ite v (rd_values.bind rd_ne) (.ret _)).bind fun _ => (rd_is _).bind fun k => .ite k (rd_number.bind fun _ => rd_hex.bind fun _ => .ret _) (.ret _)
theorem zvxa : Sm zuoa := (sm_is _).bind fun _ => (sm_is _).bind fun _ => (sm_is _).bind fun v => (Sm.ite v (sm_values.bind sm_ne) (.ret _)).bind fun _ => (sm_is _).bind fun k => .ite k (sm_number.bind fun _ => sm_hex.bind fun _ => .ret _) (.ret _)
section
variable {R : Type}
theorem zJva (a : RS) (h : Ok a) (K : zLma → RS → Option R) : zzba a K = K (zDra a).1 (zDra a).2 := by
 have hs : ∀ (b : RS), Ok b → (zbaa b fun r3 b4 => zeaa b4 maxW fun r5 b6 => cond r5
   (zbaa b6 fun r7 b8 => K (r3, (true, (r7, ((0 : Int), (false, ((0 : Int), ())))))) b8)
   (K (r3, (false, ((0 : Int), ((0 : Int), (false, ((0 : Int), ())))))) b6)) = K (sizeM b).1 (sizeM b).2 := by
  intro b hb
  have h1 := sm_number b hb
  rw [zxha b hb.1]
  have h2 := sm_is maxW _ h1
  rw [is_eq]
  simp only [sizeM, bindM]
  cases hm : (isM maxW (zCea b).2).1 with
  | false => rfl
  | true =>
   simp only [cond_true]
   rw [zxha _ h2.1]
   rfl
 unfold zzba
 rw [is_eq]
 have h1 := sm_is zbpa a h
 simp only [zDra, bindM]
 cases hm : (isM zbpa a).1 with
 | true => simp only [cond_true]; exact hs _ h1
 | false =>
  simp only [cond_false, bindM]
  rw [is_eq]
  have h2 := sm_is zrna _ h1
  cases hm2 : (isM zrna (isM zbpa a).2).1 with
  | true => simp only [cond_true]; exact hs _ h2
  | false =>
   simp only [cond_false, bindM]
   rw [is_eq]
   have h3 := sm_is varW _ h2
   rw [ztwa]
   have h4 := sm_type _ h3
   rw [zQpa _ h4.1]
   rfl
theorem zZta (a : RS) (h : Ok a) (K : zYaa → RS → Option R) : ztba a K = K (zuoa a).1 (zuoa a).2 := by
 have hs : ∀ (b : RS) (g t : Bool) (l : List Int), Ok b → (zeaa b atW fun r9 b10 => cond r9
   (zbaa b10 fun r11 b12 => zyaa b12 fun r13 b14 => K (g, (t, (l, (r11, (r13, ()))))) b14)
   (K (g, (t, (l, ((0 : Int), (([] : List (Int)), ()))))) b10)) = K (bindM (isM atW) (fun k => cond k (bindM zCea fun n => bindM hexM fun h => retM (g, (t, (l, (n, (h, ())))))) (retM (g, (t, (l, (0, ([], ()))))))) b).1 (bindM (isM atW) (fun k => cond k (bindM zCea fun n => bindM hexM fun h => retM (g, (t, (l, (n, (h, ())))))) (retM (g, (t, (l, (0, ([], ()))))))) b).2 := by
  intro b g t l hb
  rw [is_eq]
  have h1 := sm_is atW b hb
  simp only [bindM]
  cases hm : (isM atW b).1 with
  | false => rfl
  | true =>
   simp only [cond_true]
   rw [zxha _ h1.1]
   have h2 := sm_number _ h1
   rw [zgxa _ h2.1]
   rfl
 unfold ztba
 rw [is_eq]
 have h1 := sm_is growW a h
 rw [is_eq]
 have h2 := sm_is trapW _ h1
 rw [is_eq]
 have h3 := sm_is giveW _ h2
 unfold zuoa
 rw [bindM, bindM, bindM]
 dsimp only
 rw [bindM]
 cases hm : (isM giveW (isM trapW (isM growW a).2).2).1 with
 | false =>
  simp only [cond_false, zIva, retM]
  exact hs _ _ _ _ h3
 | true =>
  simp only [cond_true, zIva]
  rw [zCqa _ h3.1 h3.2]
  have h4 := sm_values _ h3
  simp only [bindM]
  generalize hv : zFja (isM giveW (isM trapW (isM growW a).2).2).2 = q at h4
  obtain ⟨l, ws, b, u⟩ := q
  cases b with
  | true =>
   simp only [cond_true]
   exact hs (ws, true, u) _ _ _ h4
  | false =>
   simp only [cond_false]
   have : (((l.length : Nat) : Int) == 0) = l.isEmpty := by cases l <;> simp <;> omega
   rw [this]
   exact hs (ws, l.isEmpty, u) _ _ _ h4
end
end Go.Trm.G1
namespace Go.Trm.G1
abbrev ActT := (Int) × It3
def Is {α R : Type} (p : (α → Bool → Option R) → Option R) (o : Option α) : Prop := ∀ K, ∃ v b, p K = K v b ∧ o = if b = true then some v else none
def endP {α : Type} : Option (α × List W) → Option α
 | some (x, []) => some x
 | _ => none
abbrev zG : zLma := ((0 : Int), (false, ((0 : Int), ((0 : Int), (false, ((0 : Int), ()))))))
abbrev zC : zYaa := (false, (false, (([] : List (Int)), ((0 : Int), (([] : List (Int)), ())))))
abbrev mkA (k : Int) (b : List Int) (g : zLma) (c : zYaa) (nm : W) (args : List Int) (fu at_ n : Int) : ActT := (k, (b, (g, (c, (nm, (args, (fu, (at_, (n, ())))))))))
abbrev zkka : W := [98, 121, 116, 101, 115]
abbrev zafa : W := [99, 104, 111, 105, 99, 101]
abbrev openW : W := [111, 112, 101, 110]
abbrev callW : W := [99, 97, 108, 108]
abbrev readW : W := [114, 101, 97, 100]
abbrev peekW : W := [112, 101, 101, 107]
def actP (w : W) : PS ActT :=
 if w = zkka then bindP (wordP hexW) fun b => retP (mkA 1 b zG zC [] [] 0 0 0)
 else if w = giveW then bindP zNka fun g => retP (mkA 2 [] g zC [] [] 0 0 0)
 else if w = zafa then bindP zfma fun c => retP (mkA 3 [] zG c [] [] 0 0 0)
 else if w = openW then bindP (wordP numT) fun n => retP (mkA 4 [] zG zC [] [] n 0 0)
 else if w = callW then bindP (wordP nameT) fun s => bindP (wordP numT) fun n => bindP zwga fun l => retP (mkA 5 [] zG zC s l n 0 0)
 else if w = readW then bindP (wordP nameT) fun s => retP (mkA 6 [] zG zC s [] 0 0 0)
 else if w = peekW then bindP (wordP numT) fun x => bindP (wordP numT) fun y => retP (mkA 7 [] zG zC [] [] 0 x y)
 else fun _ => none
def actE : List W → Option ActT
 | [] => none
 | w :: ws => endP (actP w ws)
section
variable {R : Type}
theorem zrxa (w2 : RS) (w3 : ActT) (K : ActT → Bool → Option R) :
  both
 (let v4 := !w2.2.1
 cond v4
 (zgaa w2 fun r5 b6 =>
 let v7 := !r5
 K w3 v7)
 (K w3 false))
 (let v8 := !w2.2.1
 cond v8
 (both
 (zgaa w2 fun r9 b10 =>
 let v11 := !r9
 K w3 v11)
 (zgaa w2 fun r12 b13 =>
 let v14 := !r12
 K w3 v14))
 (both
 (K w3 false)
 (K w3 false))) = K w3 (!w2.2.1 && w2.1.isEmpty) := by
 simp only [znpa, zbua, Bool.not_not]
 cases w2.2.1 <;> rfl
theorem is_of {g : MS ActT} {P : PS ActT} (h : Rd g P) (ws : List W) (p : (ActT → Bool → Option R) → Option R) (hp : ∀ K, p K = K (g (ws, false, ())).1 (!(g (ws, false, ())).2.2.1 && (g (ws, false, ())).2.1.isEmpty)) : Is p (endP (P ws)) := by
 refine fun K => ⟨_, _, hp K, ?_⟩
 have h1 := h.1 ws ()
 cases hq : P ws with
 | none =>
  rw [hq] at h1
  simp only at h1
  rw [h1]
  rfl
 | some q =>
  rw [hq] at h1
  obtain ⟨x, ws'⟩ := q
  simp only at h1
  rw [h1]
  cases ws' <;> rfl
theorem zXxa (w : W) (ws : List W) (h : Ok (w :: ws, false, ())) : Is (R := R) (fun K => zdea (w :: ws) K) (actE (w :: ws)) := by
 have hk := zlpa h false
 have key : ∀ K : ActT → Bool → Option R, zdea (w :: ws) K = ztea (fun _ w2 w3 => K w3 (!w2.2.1 && w2.1.isEmpty)) (fun w15 w16 => K w15 w16) ⟨mkA 0 [] zG zC [] [] 0 0 0, ((w :: ws, (false, ())) : RS), mkA 0 [] zG zC [] [] 0 0 0⟩ := by
  intro K
  unfold zdea
  congr 1
  funext w1 w2 w3
  exact zrxa w2 w3 K
 have key2 := key
 unfold ztea at key2
 simp only [zooa, nextM] at key2
 simp only [zBfa] at key2
 show Is _ (endP (actP w ws))
 unfold actP
 by_cases c1 : w = zkka
 ·have d1 : w = ([98, 121, 116, 101, 115] : List UInt8) := c1
  simp only [if_pos c1]
  refine is_of (g := bindM hexM fun b => retM (mkA 1 b zG zC [] [] 0 0 0)) (rd_hex.bind fun _ => .ret _) ws _ fun K => ?_
  rw [key2 K, if_pos d1, zgxa _ hk.1]
  rfl
 have d1 : ¬ w = ([98, 121, 116, 101, 115] : List UInt8) := c1
 simp only [if_neg c1]
 by_cases c2 : w = giveW
 ·have d2 : w = ([103, 105, 118, 101] : List UInt8) := c2
  simp only [if_pos c2]
  refine is_of (g := bindM zDra fun g => retM (mkA 2 [] g zC [] [] 0 0 0)) (rd_given.bind fun _ => .ret _) ws _ fun K => ?_
  rw [key2 K, if_neg d1, if_pos d2, zJva _ hk]
  rfl
 have d2 : ¬ w = ([103, 105, 118, 101] : List UInt8) := c2
 simp only [if_neg c2]
 by_cases c3 : w = zafa
 ·have d3 : w = ([99, 104, 111, 105, 99, 101] : List UInt8) := c3
  simp only [if_pos c3]
  refine is_of (g := bindM zuoa fun g => retM (mkA 3 [] zG g [] [] 0 0 0)) (rd_choice.bind fun _ => .ret _) ws _ fun K => ?_
  rw [key2 K, if_neg d1, if_neg d2, if_pos d3, zZta _ hk]
  rfl
 have d3 : ¬ w = ([99, 104, 111, 105, 99, 101] : List UInt8) := c3
 simp only [if_neg c3]
 by_cases c4 : w = openW
 ·have d4 : w = ([111, 112, 101, 110] : List UInt8) := c4
  simp only [if_pos c4]
  refine is_of (g := bindM zCea fun g => retM (mkA 4 [] zG zC [] [] g 0 0)) (rd_number.bind fun _ => .ret _) ws _ fun K => ?_
  rw [key2 K, if_neg d1, if_neg d2, if_neg d3, if_pos d4, zxha _ hk.1]
  rfl
 have d4 : ¬ w = ([111, 112, 101, 110] : List UInt8) := c4
 simp only [if_neg c4]
 by_cases c5 : w = callW
 ·have d5 : w = ([99, 97, 108, 108] : List UInt8) := c5
  simp only [if_pos c5]
  refine is_of (g := bindM nameM fun s => bindM zCea fun n => bindM zFja fun l => retM (mkA 5 [] zG zC s l n 0 0)) (rd_name.bind fun _ => rd_number.bind fun _ => rd_values.bind fun _ => .ret _) ws _ fun K => ?_
  have h1 := zywa _ hk
  have h2 := sm_number _ h1
  rw [key2 K, if_neg d1, if_neg d2, if_neg d3, if_neg d4, if_pos d5, zxua, zxha _ h1.1, zCqa _ h2.1 h2.2]
  rfl
 have d5 : ¬ w = ([99, 97, 108, 108] : List UInt8) := c5
 simp only [if_neg c5]
 by_cases c6 : w = readW
 ·have d6 : w = ([114, 101, 97, 100] : List UInt8) := c6
  simp only [if_pos c6]
  refine is_of (g := bindM nameM fun s => retM (mkA 6 [] zG zC s [] 0 0 0)) (rd_name.bind fun _ => .ret _) ws _ fun K => ?_
  rw [key2 K, if_neg d1, if_neg d2, if_neg d3, if_neg d4, if_neg d5, if_pos d6, zxua]
  rfl
 have d6 : ¬ w = ([114, 101, 97, 100] : List UInt8) := c6
 simp only [if_neg c6]
 by_cases c7 : w = peekW
 ·have d7 : w = ([112, 101, 101, 107] : List UInt8) := c7
  simp only [if_pos c7]
  refine is_of (g := bindM zCea fun x => bindM zCea fun y => retM (mkA 7 [] zG zC [] [] 0 x y)) (rd_number.bind fun _ => rd_number.bind fun _ => .ret _) ws _ fun K => ?_
  have h1 := sm_number _ hk
  rw [key2 K, if_neg d1, if_neg d2, if_neg d3, if_neg d4, if_neg d5, if_neg d6, if_pos d7, zxha _ hk.1, zxha _ h1.1]
  rfl
 have d7 : ¬ w = ([112, 101, 101, 107] : List UInt8) := c7
 simp only [if_neg c7]
 exact fun K => ⟨mkA 0 [] zG zC [] [] 0 0 0, false, (key2 K).trans (by rw [if_neg d1, if_neg d2, if_neg d3, if_neg d4, if_neg d5, if_neg d6, if_neg d7]), rfl⟩
end
end Go.Trm.G1
namespace Go.Trm.G1
theorem zmua (l : W) (i : Nat) (h : i < l.length) : rng l (i : Int) ((i + 1 : Nat) : Int) = [l.getD i 0] := by
 simp only [rng, Int.toNat_natCast]
 rw [List.take_succ_eq_append_getElem h, List.drop_append_of_le_length (by simp; omega), List.drop_of_length_le (by simp; omega), List.getD_eq_getElem?_getD, List.getElem?_eq_getElem h]
 rfl
section
variable {R : Type}
theorem zOra (kx : List W → Option R) (l : W) (hl : l.length ≤ 2147483648) : ∀ (n i : Nat) (out : List W) (w : W), l.length ≤ i + n → i ≤ l.length → out.length + w.length ≤ i →
  loopN (zDaa kx) (n + 2) ⟨l, out, w, (i : Int)⟩ = kx (out ++ zlca w (l.drop i)) := by
 have hm : most = 4294967296 := rfl
 have hend : ∀ (n i : Nat) (out : List W) (w : W), i = l.length → out.length + w.length ≤ i → loopN (zDaa kx) (n + 2) ⟨l, out, w, (i : Int)⟩ = kx (out ++ zlca w (l.drop i)) := by
  intro n i out w hi h3
  have hstop : ∀ o w', loopN (zDaa kx) (n + 1) ⟨l, o, w', ((i + 1 : Nat) : Int)⟩ = kx o := by
   intro o w'
   rw [zqaa]
   unfold zDaa
   simp only [zjaa]
   rw [if_neg (by omega)]
  rw [zqaa]
  generalize loopN (zDaa kx) (n + 1) = rec at hstop ⊢
  unfold zDaa
  simp only [zjaa, zVaa, znha, zlja, zBfa]
  rw [if_pos (by omega), if_neg (by omega), w_i64 (by omega), show (i : Int) + 1 = ((i + 1 : Nat) : Int) by omega, hstop, hstop, List.drop_of_length_le (by omega)]
  unfold zlca
  by_cases hw : w = []
  ·rw [if_pos hw, if_pos hw]; simp
  ·have : 0 < w.length := by cases w <;> simp at hw ⊢
   rw [if_neg hw, if_neg hw, if_pos (by simp only [List.length_set, List.length_replicate]; omega)]; rfl
 intro n
 induction n with
 | zero => intro i out w h1 h2 h3; exact hend 0 i out w (by omega) h3
 | succ n ih =>
  intro i out w h1 h2 h3
  by_cases hi : i < l.length
  case neg => exact hend (n + 1) i out w (by omega) h3
  rw [zqaa]
  generalize loopN (zDaa kx) (n + 2) = rec at ih ⊢
  unfold zDaa
  simp only [zjaa, zVaa, zjka, znha, zlja, zBfa]
  rw [if_pos (by omega), if_pos (by omega), if_pos ⟨by omega, by omega⟩, w_i64 (by omega), show (i : Int) + 1 = ((i + 1 : Nat) : Int) by omega, bt_at, zmua l i hi]
  rw [ziea l i 0 hi]
  generalize l.getD i 0 = b
  conv => rhs; unfold zlca
  by_cases hb : b = 32
  ·subst hb
   rw [if_pos (by rfl), if_pos rfl]
   by_cases hw : w = []
   ·rw [if_pos hw, if_pos hw]
    rw [ih (i + 1) out [] (by omega) (by omega) (by simp only [List.length_nil]; omega)]
   ·have : 0 < w.length := by cases w <;> simp at hw ⊢
    rw [if_neg hw, if_neg hw, if_pos (by simp only [List.length_set, List.length_replicate]; omega)]
    rw [ih (i + 1) _ [] (by omega) (by omega) (by simp only [List.length_append, List.length_set, List.length_replicate, List.length_nil]; omega)]
    rw [List.append_assoc]; rfl
  ·rw [if_neg (fun hc => hb (UInt8.toNat_inj.1 (by show b.toNat = 32; omega))), if_neg hb, if_pos ⟨by omega, by omega, by omega⟩, if_pos (by simp only [List.length_cons, List.length_nil]; omega)]
   rw [ih (i + 1) out _ (by omega) (by omega) (by simp only [List.length_append, List.length_cons, List.length_nil]; omega)]
theorem zKua (l : W) (hl : l.length ≤ 2147483648) (K : List W → Option R) : zQca l K = K (zlca [] l) := by
 unfold zQca
 obtain ⟨m, hf⟩ := ztda (l.length + 2) (by omega)
 rw [hf]
 have := zOra (R := R) (fun w1 => K w1) l hl (m + l.length) 0 [] [] (by omega) (by omega) (by simp)
 rw [List.drop_zero, List.nil_append] at this
 exact this
theorem zQra (kr : Int → Bool → Option R) (kx : Int → Option R) (s : W) (hs : s.length ≤ most) : ∀ (n i acc : Nat), s.length ≤ i + n → i ≤ s.length → acc ≤ 18446744073709551615 →
  loopN (zZaa kr kx) (n + 1) ⟨s, (acc : Int), (i : Int)⟩ = match decF acc (s.drop i) with | some m => kx (m : Int) | none => kr 0 false := by
 have hm : most = 4294967296 := rfl
 intro n
 induction n with
 | zero =>
  intro i acc h1 h2 h3
  rw [zqaa]
  unfold zZaa
  simp only [zjaa]
  rw [if_neg (by omega), List.drop_of_length_le (by omega)]
  rfl
 | succ n ih =>
  intro i acc h1 h2 h3
  rw [zqaa]
  generalize loopN (zZaa kr kx) (n + 1) = rec at ih ⊢
  unfold zZaa
  simp only [zjaa, zVaa, znha]
  by_cases hi : i < s.length
  ·rw [if_pos (by omega), if_pos ⟨by omega, by omega⟩, if_pos ⟨by omega, by omega⟩, bt_at, ziea s i 0 hi, zSka]
   have hlt := (s.getD i 0).toNat_lt
   generalize (s.getD i 0).toNat = b at hlt ⊢
   by_cases c1 : 48 ≤ b
   ·rw [if_neg (by omega), if_pos ⟨by omega, by omega⟩]
    by_cases c2 : b ≤ 57
    ·rw [if_neg (by omega), if_neg (by decide), w_u64 (n := (b : Int)) (by omega), w_u64 (n := (b : Int) - 48) (by omega), w_u64 (n := 18446744073709551615 - ((b : Int) - 48)) (by omega)]
     have ht : Int.tdiv (18446744073709551615 - ((b : Int) - 48)) 10 = (18446744073709551615 - ((b : Int) - 48)) / 10 := Int.tdiv_eq_ediv_of_nonneg (by omega)
     rw [ht, w_u64 (n := (18446744073709551615 - ((b : Int) - 48)) / 10) (by omega)]
     by_cases c3 : acc * 10 + (b - 48) ≤ 18446744073709551615
     ·rw [if_neg (by omega), if_pos ⟨c1, c2, c3⟩, w_u64 (n := (acc : Int) * 10) (by omega), w_u64 (n := (acc : Int) * 10 + ((b : Int) - 48)) (by omega), w_i64 (by omega)]
      rw [show (acc : Int) * 10 + ((b : Int) - 48) = ((acc * 10 + (b - 48) : Nat) : Int) by omega, show (i : Int) + 1 = ((i + 1 : Nat) : Int) by omega]
      exact ih (i + 1) _ (by omega) (by omega) c3
     ·rw [if_pos (by omega), if_neg (fun h => c3 h.2.2)]
    ·rw [if_pos (by omega), if_neg (fun h => c2 h.2.1)]
   ·rw [if_pos (by omega), if_neg (fun h => c1 h.1)]
  ·rw [if_neg (by omega), List.drop_of_length_le (by omega)]
   rfl
theorem zCua : ∀ (l : W) (acc n : Nat), decF acc l = some n → acc * 10 ^ l.length ≤ n
 | [], acc, n, h => by simp only [decF, Option.some.injEq] at h; subst h; simp
 | b :: l, acc, n, h => by
  rw [zSka] at h
  split at h
  ·have := zCua l _ n h
   rw [List.length_cons, Nat.pow_succ]
   calc acc * (10 ^ l.length * 10) = (acc * 10) * 10 ^ l.length := by rw [Nat.mul_comm (10 ^ l.length) 10, ← Nat.mul_assoc]
    _ ≤ (acc * 10 + (b.toNat - 48)) * 10 ^ l.length := Nat.mul_le_mul_right _ (by omega)
    _ ≤ n := this
  ·cases h
theorem zhwa {s : W} (h : 20 < s.length) : wv s = none := by
 cases s with
 | nil => rfl
 | cons b l =>
  rw [zjoa]
  split
  ·rfl
  ·rename_i hc
   cases hd : decF 0 (b :: l) with
   | none => rfl
   | some n =>
    exfalso
    have h1 := zXsa _ 0 n (by omega) hd
    rw [zSka] at hd
    simp only [List.length_cons] at h
    split at hd
    ·rename_i hb
     have h2 := zCua l _ n hd
     have hb1 : b.toNat ≠ 48 := fun hb' => hc ⟨UInt8.toNat_inj.1 (by rw [hb']; rfl), fun hl => by subst hl; simp at h⟩
     have h3 : 10 ^ 20 ≤ 10 ^ l.length := Nat.pow_le_pow_right (by omega) (by omega)
     have h4 : 1 * 10 ^ l.length ≤ (0 * 10 + (b.toNat - 48)) * 10 ^ l.length := Nat.mul_le_mul_right _ (by omega)
     omega
    ·cases hd
theorem zNma (s : W) (K : Int → Bool → Option R) : zQaa s K = match wv s with | some n => K (n : Int) true | none => K 0 false := by
 cases s with
 | nil => rfl
 | cons b l =>
  unfold zQaa
  simp only [bt_0]
  simp only [zBfa, zjaa, zVaa]
  rw [if_neg (by simp)]
  by_cases h : 20 < (b :: l).length
  ·rw [if_pos (by omega), zhwa h]
  have hm : most = 4294967296 := rfl
  have hv : loopN (zZaa (fun w8 w9 => K w8 w9) (fun w10 => K w10 true)) zvfa ⟨b :: l, (0 : Int), (0 : Int)⟩ = match decF 0 (b :: l) with | some n => K (n : Int) true | none => K 0 false := by
   obtain ⟨m, hf⟩ := ztda ((b :: l).length + 1) (by omega)
   rw [hf]
   exact zQra (R := R) (fun w8 w9 => K w8 w9) (fun w10 => K w10 true) (b :: l) (by omega) (m + (b :: l).length) 0 0 (by omega) (by omega) (by omega)
  rw [if_neg (by omega), hv, zjoa]
  by_cases h1 : l = []
  ·subst h1
   rw [if_neg (by simp), if_neg (by simp)]
  ·have hp : 0 < l.length := by cases l <;> simp at h1 ⊢
   simp only [List.length_cons]
   rw [if_pos (by omega), if_pos (by omega)]
   by_cases hb : b = 48
   ·rw [if_pos (by subst hb; rfl), if_pos ⟨hb, h1⟩]
   ·rw [if_neg (fun hc => hb (UInt8.toNat_inj.1 (by show b.toNat = 48; omega))), if_neg (fun hc => hb hc.1)]
theorem zJqa (s : W) : Is (R := R) (fun K => zQaa s K) (valT s) := by
 cases h : wv s with
 | none => exact fun K => ⟨0, false, by show zQaa s K = _; rw [zNma, h], by simp [valT, h]⟩
 | some n => exact fun K => ⟨n, true, by show zQaa s K = _; rw [zNma, h], by simp [valT, h]⟩
theorem zeca (s : W) : Is (R := R) (fun K => zaaa s K) (numT s) := by
 unfold zaaa numT
 simp only [zNma]
 cases h : wv s with
 | none => exact fun K => ⟨0, false, rfl, rfl⟩
 | some n =>
  simp only [Bool.not_true, cond_false, zjaa]
  by_cases hn : n ≥ 4294967296
  ·exact fun K => ⟨0, false, if_pos (by omega), by rw [if_pos hn]; rfl⟩
  ·exact fun K => ⟨n, true, (if_neg (by omega)).trans (by rw [w_i64 (by omega)]), by rw [if_neg hn]; rfl⟩
def allV : List W → Option (List Int)
 | [] => some []
 | w :: ws => match wv w, allV ws with
  | some n, some l => some ((n : Int) :: l)
  | _, _ => none
theorem zYva : ∀ {ws : List W} {l : List Int}, allV ws = some l → l.length = ws.length
 | [], l, h => by simp only [allV, Option.some.injEq] at h; subst h; rfl
 | w :: ws, l, h => by
  unfold allV at h
  split at h
  ·rename_i n l' h1 h2
   simp only [Option.some.injEq] at h
   subst h
   simp [zYva h2]
  ·cases h
theorem zWpa (kr : List Int → Bool → Option R) (kx : List Int → Option R) (ws : List W) (hs : ws.length ≤ most) : ∀ (n i : Nat) (out : List Int), ws.length ≤ i + n → i ≤ ws.length → out.length ≤ i →
  loopN (zJba kr kx) (n + 1) ⟨ws, out, (i : Int)⟩ = match allV (ws.drop i) with | some l => kx (out ++ l) | none => kr [] false := by
 have hm : most = 4294967296 := rfl
 intro n
 induction n with
 | zero =>
  intro i out h1 h2 h3
  rw [zqaa]
  unfold zJba
  simp only [zjaa]
  rw [if_neg (by omega), List.drop_of_length_le (by omega)]
  simp [allV]
 | succ n ih =>
  intro i out h1 h2 h3
  rw [zqaa]
  generalize loopN (zJba kr kx) (n + 1) = rec at ih ⊢
  unfold zJba
  simp only [zjaa, zVaa, zNma]
  by_cases hi : i < ws.length
  ·rw [if_pos (by omega), if_pos ⟨by omega, by omega⟩, ziea ws i [] hi, Int.toNat_natCast]
   generalize ws.getD i [] = w
   rw [show allV (w :: ws.drop (i + 1)) = match wv w, allV (ws.drop (i + 1)) with | some n, some l => some ((n : Int) :: l) | _, _ => none from rfl]
   cases wv w with
   | none => rfl
   | some m =>
    simp only [Bool.not_true, cond_false]
    rw [if_pos (by simp only [List.length_set, List.length_replicate]; omega), w_i64 (by omega), show (i : Int) + 1 = ((i + 1 : Nat) : Int) by omega]
    rw [ih (i + 1) _ (by omega) (by omega) (by simp only [List.length_append, List.length_set, List.length_replicate]; omega)]
    cases allV (ws.drop (i + 1)) with
    | none => rfl
    | some l => simp
  ·rw [if_neg (by omega), List.drop_of_length_le (by omega)]
   simp [allV]
def valsE (ws : List W) : Option (List Int) := match allV ws with
 | some l => if l.length > 8 then none else some l
 | none => none
theorem zcpa (ws : List W) (hs : ws.length ≤ most) : Is (R := R) (fun K => zNaa ws K) (valsE ws) := by
 unfold zNaa valsE
 have hm : most = 4294967296 := rfl
 obtain ⟨m, hf⟩ := ztda (ws.length + 1) (by omega)
 rw [hf]
 have h := fun K : List Int → Bool → Option R => zWpa (R := R) (fun w1 w2 => K w1 w2) (fun w3 => K w3 (decide (((List.length w3 : Nat) : Int) ≤ 8))) ws hs (m + ws.length) 0 [] (by omega) (by omega) (by simp)
 simp only [List.drop_zero, List.nil_append] at h
 cases ha : allV ws with
 | none => exact fun K => ⟨[], false, by have := h K; rw [ha] at this; exact this, rfl⟩
 | some l =>
  by_cases hl : l.length > 8
  ·exact fun K => ⟨l, false, by
    have := h K
    rw [ha] at this
    refine this.trans ?_
    simp only
    rw [decide_eq_false (by omega)], by simp [hl]⟩
  ·exact fun K => ⟨l, true, by
    have := h K
    rw [ha] at this
    refine this.trans ?_
    simp only
    rw [decide_eq_true (by omega)], by simp [hl]⟩
theorem zKra {w : W} (h : digB w = false) : wv w = none := by
 cases w with
 | nil => rfl
 | cons b l =>
  cases hv : wv (b :: l) with
  | none => rfl
  | some n =>
   have := zIua hv
   unfold digB at h
   simp only [decide_eq_false_iff_not] at h
   exact absurd this h
theorem zRra : ∀ ws : List W, endP (valsP ws) = allV ws
 | [] => rfl
 | w :: ws => by
  have ih := zRra ws
  unfold valsP allV
  cases hd : digB w with
  | false => rw [zKra hd]; rfl
  | true =>
   simp only
   cases wv w with
   | none => rfl
   | some n =>
    rw [← ih]
    cases valsP ws with
    | none => rfl
    | some q => obtain ⟨l, r⟩ := q; cases r <;> rfl
theorem zPra (ws : List W) : endP (zwga ws) = valsE ws := by
 unfold zwga valsE
 rw [← zRra]
 cases valsP ws with
 | none => rfl
 | some q =>
  obtain ⟨l, r⟩ := q
  cases r with
  | nil =>
   simp only [endP]
   by_cases h : l.length > 8 <;> simp [h]
  | cons x r =>
   simp only [endP]
   by_cases h : l.length > 8 <;> simp [h]
theorem zAua (b : UInt8) : (∀ n, hexD b = some n → ∀ K : Int → Bool → Option R, zeea (b.toNat : Int) K = K n true) ∧ (hexD b = none → ∃ v, ∀ K : Int → Bool → Option R, zeea (b.toNat : Int) K = K v false) := by
 have hlt := b.toNat_lt
 unfold hexD zeea
 simp only [zjaa]
 generalize b.toNat = x at hlt ⊢
 refine ⟨fun n hn K => ?_, fun hn => ?_⟩
 ·split at hn
  ·rename_i hc
   simp only [Option.some.injEq] at hn
   rw [if_pos (by omega), if_pos (by omega), w_u8 (by omega), ← hn]
   congr 1
   omega
  ·split at hn
   ·rename_i hc
    simp only [Option.some.injEq] at hn
    rw [if_pos (by omega), if_neg (by omega), if_pos (by omega), w_u8 (n := (x : Int) - 97) (by omega), w_u8 (by omega), ← hn, decide_eq_true (by omega)]
    congr 1
    omega
   ·cases hn
 ·split at hn
  ·cases hn
  ·split at hn
   ·cases hn
   ·rename_i h1 h2
    by_cases c1 : 48 ≤ x
    ·by_cases c3 : 97 ≤ x
     ·exact ⟨_, fun K => by rw [if_pos (by omega), if_neg (by omega), if_pos (by omega), decide_eq_false (by omega)]⟩
     ·exact ⟨_, fun K => by rw [if_pos (by omega), if_neg (by omega), if_neg (by omega)]⟩
    ·exact ⟨_, fun K => by rw [if_neg (by omega), if_neg (by omega)]⟩
theorem zuta (kr : List Int → Bool → Option R) (kx : W → List Int → Option R) (s : W) (hs : s.length ≤ most) :
  ∀ (n i : Nat) (out : List Int), s.length ≤ i + n → i ≤ s.length → out.length ≤ i →
   (∃ r, hexs (s.drop i) = some r ∧ loopN (zaba kr kx) (n + 1) ⟨s, out, (i : Int)⟩ = kx s (out ++ r)) ∨ (hexs (s.drop i) = none ∧ (loopN (zaba kr kx) (n + 1) ⟨s, out, (i : Int)⟩ = kr [] false ∨ ((s.length - i) % 2 = 1 ∧ ∃ o, loopN (zaba kr kx) (n + 1) ⟨s, out, (i : Int)⟩ = kx s o))) := by
 have hm : most = 4294967296 := rfl
 intro n
 induction n with
 | zero =>
  intro i out h1 h2 h3
  left
  rw [zqaa]
  unfold zaba
  simp only [zjaa]
  rw [w_i64 (by omega), if_neg (by omega), List.drop_of_length_le (by omega)]
  exact ⟨[], rfl, by simp⟩
 | succ n ih =>
  intro i out h1 h2 h3
  rw [zqaa]
  generalize hrec : loopN (zaba kr kx) (n + 1) = rec at ih ⊢
  unfold zaba
  simp only [zjaa, zVaa]
  rw [w_i64 (n := (i : Int) + 1) (by omega)]
  by_cases hi : i + 1 < s.length
  ·have e2 : (0 : Int) ≤ (i : Int) + 1 ∧ (i : Int) + 1 < ((s.length : Nat) : Int) := ⟨by omega, by omega⟩
   have e3 : bt s ((i : Int) + 1) = ((s.getD (i + 1) 0).toNat : Int) := by rw [show (i : Int) + 1 = ((i + 1 : Nat) : Int) by omega, bt_at]
   rw [if_pos (by omega), if_pos ⟨by omega, by omega⟩]
   simp only [if_pos e2, e3, bt_at]
   rw [ziea s i 0 (by omega), ziea s (i + 1) 0 hi, zSma]
   generalize s.getD i 0 = a, s.getD (i + 1) 0 = b
   obtain ⟨a1, a2⟩ := zAua (R := R) a
   obtain ⟨b1, b2⟩ := zAua (R := R) b
   cases ha : hexD a with
   | none =>
    obtain ⟨v, hv⟩ := a2 ha
    rw [hv]
    cases hb : hexD b with
    | none => obtain ⟨v', hv'⟩ := b2 hb; rw [hv']; exact .inr ⟨rfl, .inl rfl⟩
    | some y => rw [b1 y hb]; exact .inr ⟨rfl, .inl rfl⟩
   | some x =>
    rw [a1 x ha]
    have hx := zbra ha
    cases hb : hexD b with
    | none => obtain ⟨v', hv'⟩ := b2 hb; rw [hv']; exact .inr ⟨rfl, .inl rfl⟩
    | some y =>
     rw [b1 y hb]
     have hy := zbra hb
     simp only [Bool.not_true, cond_false]
     rw [w_u8 (n := (16 : Int) * (x : Int)) (by omega), w_u8 (n := (16 : Int) * (x : Int) + (y : Int)) (by omega), if_pos (by simp only [List.length_set, List.length_replicate]; omega), w_i64 (by omega), show (i : Int) + 2 = ((i + 2 : Nat) : Int) by omega]
     have := ih (i + 2) (out ++ List.set (List.replicate 1 (0 : Int)) 0 ((16 : Int) * (x : Int) + (y : Int))) (by omega) (by omega) (by simp only [List.length_append, List.length_set, List.length_replicate]; omega)
     rcases this with ⟨r, e1, e2⟩ | ⟨e1, e2⟩
     ·rw [e1]
      left
      refine ⟨_, rfl, e2.trans ?_⟩
      rw [List.append_assoc]
      rw [show ((16 * x + y : Nat) : Int) = (16 : Int) * (x : Int) + (y : Int) by omega]
      rfl
     ·rw [e1]
      right
      refine ⟨rfl, ?_⟩
      rcases e2 with e2 | ⟨e2, e3⟩
      ·exact .inl e2
      ·exact .inr ⟨by omega, e3⟩
  ·rw [if_neg (by omega)]
   rcases Nat.lt_or_ge i s.length with h | h
   ·right
    rw [ziea s i 0 h, List.drop_of_length_le (by omega)]
    exact ⟨rfl, .inr ⟨by omega, out, rfl⟩⟩
   ·left
    rw [List.drop_of_length_le h]
    exact ⟨[], rfl, by simp⟩
end
end Go.Trm.G1
namespace Go.Trm.G1
section
variable {R : Type}
theorem zPqa (s : W) (hs : s.length ≤ most) : Is (R := R) (fun K => zuba s K) (hexW s) := by
 have hm : most = 4294967296 := rfl
 obtain ⟨m, hf⟩ := ztda (s.length + 1) (by omega)
 have hx : ∀ (o : List Int) (K : List Int → Bool → Option R), (let v5 := ((List.length s : Nat) : Int)
 let v6 := decide (v5 > (0 : Int))
 cond v6
 (let v7 := ((List.length s : Nat) : Int)
 cond ((2 : Int) != 0)
 (let v8 := Int.tmod v7 (2 : Int)
 let v9 := v8 == (0 : Int)
 K o v9) none)
 (K o false)) = K o (decide (0 < s.length ∧ s.length % 2 = 0)) := by
  intro o K
  simp only [zjaa, znha]
  by_cases h : 0 < s.length
  ·rw [if_pos (by omega), if_neg (by decide)]
   have ht : Int.tmod ((s.length : Nat) : Int) 2 = ((s.length % 2 : Nat) : Int) := rfl
   rw [ht]
   congr 1
   rw [Bool.eq_iff_iff]
   simp only [beq_iff_eq, decide_eq_true_eq]
   omega
  ·rw [if_neg (by omega), decide_eq_false (fun hc => h hc.1)]
 have hl := fun K : List Int → Bool → Option R => zuta (R := R) (fun w1 w2 => K w1 w2) (fun w3 w4 =>
 let v5 := ((List.length w3 : Nat) : Int)
 let v6 := decide (v5 > (0 : Int))
 cond v6
 (let v7 := ((List.length w3 : Nat) : Int)
 cond ((2 : Int) != 0)
 (let v8 := Int.tmod v7 (2 : Int)
 let v9 := v8 == (0 : Int)
 K w4 v9) none)
 (K w4 false)) s hs (m + s.length) 0 [] (by omega) (by omega) (by simp)
 simp only [List.drop_zero, List.nil_append] at hl
 intro K
 show ∃ v b, zuba s K = K v b ∧ _
 unfold zuba
 rw [hf]
 unfold hexW
 have hp : s ≠ [] → 0 < s.length := fun h0 => by cases s <;> simp at h0 ⊢
 rcases hl K with ⟨r, e1, e2⟩ | ⟨e1, e2⟩
 ·refine ⟨_, _, Eq.trans e2 (hx r K), ?_⟩
  by_cases h0 : s = []
  ·subst h0; rfl
  ·have hev : s.length % 2 = 0 := by
    by_cases h2 : s.length % 2 = 0
    ·exact h2
    ·rw [zOsa _ s (Nat.le_refl _) h2] at e1; cases e1
   rw [if_neg h0, e1, decide_eq_true ⟨hp h0, hev⟩]; rfl
 ·rcases e2 with e2 | ⟨e3, o, e2⟩
  ·refine ⟨_, _, e2, ?_⟩
   by_cases h0 : s = []
   ·subst h0; cases e1
   ·rw [if_neg h0, e1]; rfl
  ·refine ⟨_, _, Eq.trans e2 (hx o K), ?_⟩
   by_cases h0 : s = []
   ·subst h0; cases e1
   ·rw [if_neg h0, e1, decide_eq_false (fun hc => by omega)]; rfl
theorem zvra (kr : Bool → Option R) (kx : W → Option R) (s : W) (hs : s.length ≤ most) :
  ∀ (n i : Nat), s.length ≤ i + n → i ≤ s.length → loopN (zXba kr kx) (n + 1) ⟨s, (i : Int)⟩ = cond ((s.drop i).all nameC) (kx s) (kr false) := by
 have hm : most = 4294967296 := rfl
 intro n
 induction n with
 | zero =>
  intro i h1 h2
  rw [zqaa]
  unfold zXba
  simp only [zjaa]
  rw [if_neg (by omega), List.drop_of_length_le (by omega)]
  rfl
 | succ n ih =>
  intro i h1 h2
  rw [zqaa]
  generalize loopN (zXba kr kx) (n + 1) = rec at ih ⊢
  unfold zXba
  by_cases hi : i < s.length
  ·simp only [bt_at]
   simp only [zjaa, zVaa, zlja, zBfa, Bool.not_true, Bool.not_false, cond_true, cond_false]
   rw [if_pos (by omega), if_pos ⟨by omega, by omega⟩, w_i64 (by omega), show (i : Int) + 1 = ((i + 1 : Nat) : Int) by omega, ih (i + 1) (by omega) (by omega), ziea s i 0 hi]
   generalize s.getD i 0 = b
   rw [List.all_cons]
   have e : nameC b = decide ((48 ≤ b.toNat ∧ b.toNat ≤ 57) ∨ b.toNat = 95 ∨ (97 ≤ b.toNat ∧ b.toNat ≤ 122)) := by
    unfold nameC
    rw [Bool.eq_iff_iff]
    simp only [Bool.or_eq_true, Bool.and_eq_true, decide_eq_true_eq, beq_iff_eq]
    omega
   rw [e]
   generalize List.all (s.drop (i + 1)) nameC = z
   generalize b.toNat = x
   by_cases c1 : x = 95
   ·rw [if_pos (by omega), decide_eq_true (by omega)]; rfl
   rw [if_neg (by omega)]
   by_cases c2 : 97 ≤ x
   ·rw [if_pos (by omega)]
    by_cases c3 : x ≤ 122
    ·rw [if_pos (by omega), decide_eq_true (by omega)]; rfl
    ·rw [if_neg (by omega), if_pos (by omega), if_neg (by omega), decide_eq_false (by omega)]; rfl
   ·rw [if_neg (by omega)]
    by_cases c3 : 48 ≤ x
    ·rw [if_pos (by omega)]
     by_cases c4 : x ≤ 57
     ·rw [if_pos (by omega), decide_eq_true (by omega)]; rfl
     ·rw [if_neg (by omega), decide_eq_false (by omega)]; rfl
    ·rw [if_neg (by omega), decide_eq_false (by omega)]; rfl
  ·simp only [zjaa]
   rw [if_neg (by omega), List.drop_of_length_le (by omega)]
   rfl
theorem zOqa (s : W) (hs : s.length ≤ most) (K : Bool → Option R) : zlaa s K = K (zJoa s) := by
 have hm : most = 4294967296 := rfl
 unfold zlaa zJoa
 obtain ⟨m, hf⟩ := ztda (s.length + 1) (by omega)
 rw [hf]
 refine Eq.trans (zvra (R := R) (fun w => K w) _ s hs (m + s.length) 0 (by omega) (by omega)) ?_
 rw [List.drop_zero]
 cases s.all nameC with
 | false => simp
 | true =>
  simp only [cond_true, zjaa, Bool.and_true]
  by_cases h1 : 1 ≤ s.length
  ·rw [if_pos (by omega), decide_eq_true h1, Bool.true_and]
   congr 1
   rw [Bool.eq_iff_iff]; simp only [decide_eq_true_eq]; omega
  ·rw [if_neg (by omega), decide_eq_false h1, Bool.false_and]
end
end Go.Trm.G1
namespace Go.Trm.G1
def sizeE : List W → Option zLma
 | [x] => (numT x).map fun n => (n, (false, (0, (0, (false, (0, ()))))))
 | [x, m, y] => if m = maxW then (match numT x, numT y with
  | some n, some k => some (n, (true, (k, (0, (false, (0, ()))))))
  | _, _ => none) else none
 | _ => none
theorem zEaa {α : Type} (p : W → Option α) (w : W) (ws : List W) : wordP p (w :: ws) = match p w with
  | some x => some (x, ws)
  | none => none := rfl
theorem zasa (r : List W) : endP (sizeP r) = sizeE r := by
 match r with
 | [] => rfl
 | [x] =>
  simp only [sizeP, bindP, wordP, sizeE, isP, retP]
  cases numT x <;> rfl
 | x :: m :: r =>
  have e : sizeP (x :: m :: r) = match numT x with
   | some n => (if m = maxW then (match wordP numT r with
    | some (k, r') => some ((n, (true, (k, (0, (false, (0, ())))))), r')
    | none => none) else some ((n, (false, (0, (0, (false, (0, ())))))), m :: r))
   | none => none := by
   simp only [sizeP, bindP]
   rw [zEaa]
   cases numT x with
   | none => rfl
   | some n =>
    simp only [isP]
    by_cases h : m = maxW
    ·simp only [if_pos h, cond_true, bindP]; cases wordP numT r <;> rfl
    ·simp only [if_neg h, cond_false]; rfl
  rw [e]
  match r with
  | [] =>
   simp only [sizeE]
   cases numT x with
   | none => rfl
   | some n => by_cases h : m = maxW <;> simp [h, endP, wordP]
  | [y] =>
   simp only [sizeE, wordP]
   cases numT x with
   | none => by_cases h : m = maxW <;> simp [h, endP]
   | some n => by_cases h : m = maxW <;> cases numT y <;> simp [h, endP]
  | y :: z :: r =>
   simp only [sizeE, wordP]
   cases numT x with
   | none => rfl
   | some n => by_cases h : m = maxW <;> cases numT y <;> simp [h, endP]
def varE (v : Bool) : List W → Option zLma
 | [t, n] => match typeT t, valT n with
  | some t, some n => some (0, (false, (0, (t, (v, (n, ()))))))
  | _, _ => none
 | _ => none
def varP (v : Bool) : PS zLma := bindP (wordP typeT) fun t => bindP (wordP valT) fun n => retP (0, (false, (0, (t, (v, (n, ()))))))
theorem zfua (v : Bool) (r : List W) : endP (varP v r) = varE v r := by
 match r with
 | [] => rfl
 | [t] =>
  simp only [varP, bindP, wordP, varE]
  cases typeT t <;> rfl
 | [t, n] =>
  simp only [varP, bindP, wordP, varE]
  cases typeT t with
  | none => rfl
  | some t => cases hn : valT n <;> simp [wordP, hn, retP, endP]
 | t :: n :: x :: r =>
  simp only [varP, bindP, varE]
  rw [zEaa]
  cases typeT t with
  | none => rfl
  | some t =>
   simp only
   rw [zEaa]
   cases valT n <;> rfl
theorem zUta (a : W) (r : List W) : endP (zNka (a :: r)) = if a = zbpa ∨ a = zrna then sizeE r else if a = varW then varE true r else varE false (a :: r) := by
 by_cases h1 : a = zbpa
 ·rw [if_pos (.inl h1)]
  have : zNka (a :: r) = sizeP r := by simp only [zNka, bindP, isP, if_pos h1]; rfl
  rw [this, zasa]
 by_cases h2 : a = zrna
 ·rw [if_pos (.inr h2)]
  have : zNka (a :: r) = sizeP r := by simp only [zNka, bindP, isP, if_neg h1, cond_false, if_pos h2]; rfl
  rw [this, zasa]
 rw [if_neg (fun h => h.elim h1 h2)]
 by_cases h3 : a = varW
 ·rw [if_pos h3]
  have : zNka (a :: r) = varP true r := by simp only [zNka, bindP, isP, if_neg h1, cond_false, if_neg h2, if_pos h3]; rfl
  rw [this, zfua]
 ·rw [if_neg h3]
  have : zNka (a :: r) = varP false (a :: r) := by simp only [zNka, bindP, isP, if_neg h1, cond_false, if_neg h2, if_neg h3]; rfl
  rw [this, zfua]
section
variable {R : Type}
abbrev gv (v : Bool) : zLma := ((0 : Int), (false, ((0 : Int), ((0 : Int), (v, ((0 : Int), ()))))))
noncomputable abbrev T17 (r : List W) (v : Bool) (K : zLma → Bool → Option R) : Option R :=
 zkca (fun w9 w10 =>
 K w9 w10) (fun w11 w12 w13 =>
 zHda (fun w14 w15 w16 =>
 cond (inB (1 : Int) (List.length w14))
 (let v17 := List.getD w14 (1 : Int).toNat ([] : List UInt8)
 zQaa v17 fun r18 r19 =>
 K (w16.1, (w16.2.1, (w16.2.2.1, (w16.2.2.2.1, (w16.2.2.2.2.1, (r18, w16.2.2.2.2.2.2)))))) r19) none) ⟨w11, w12, (w13.1, (w13.2.1, (w13.2.2.1, ((127 : Int), w13.2.2.2.2))))⟩) ⟨r, zG, gv v⟩
theorem zvwa (r : List W) (v : Bool) : Is (R := R) (fun K => T17 r v K) (varE v r) := by
 intro K
 show ∃ v' b, T17 r v K = K v' b ∧ _
 match r with
 | [] => exact ⟨_, false, rfl, rfl⟩
 | [_] => exact ⟨_, false, rfl, rfl⟩
 | [t, n] =>
  by_cases h1 : t = [105, 51, 50]
  ·subst h1
   obtain ⟨x, b, e1, e2⟩ := zJqa (R := R) n (fun r18 r19 => K (0, (false, (0, (127, (v, (r18, ())))))) r19)
   refine ⟨_, b, e1, ?_⟩
   simp only [varE, e2]
   cases b <;> rfl
  by_cases h2 : t = [105, 54, 52]
  ·subst h2
   obtain ⟨x, b, e1, e2⟩ := zJqa (R := R) n (fun r18 r19 => K (0, (false, (0, (126, (v, (r18, ())))))) r19)
   refine ⟨_, b, e1, ?_⟩
   simp only [varE, e2]
   cases b <;> rfl
  ·refine ⟨gv v, false, ?_, ?_⟩
   ·have f1 : (t == ([105, 51, 50] : List UInt8)) = false := by simpa using h1
    have f2 : (t == ([105, 54, 52] : List UInt8)) = false := by simpa using h2
    show (cond (!(t == ([105, 51, 50] : List UInt8))) (cond (!(t == ([105, 54, 52] : List UInt8))) (K (gv v) false) _) _) = _
    rw [f1, f2]; rfl
   ·simp only [varE, typeT, if_neg h1, if_neg h2]; rfl
 | t :: n :: x :: r =>
  refine ⟨gv v, false, ?_, rfl⟩
  unfold T17 zkca
  simp only [znha]
  rw [if_neg (by simp only [List.length_cons]; omega)]
theorem zvta (ws : List W) : Is (R := R) (fun K => zWaa ws K) (endP (zNka ws)) := by
 intro K
 show ∃ v' b, zWaa ws K = K v' b ∧ _
 cases ws with
 | nil => exact ⟨_, false, rfl, rfl⟩
 | cons a r =>
 rw [zUta]
 by_cases h : a = zbpa ∨ a = zrna
 ·rw [if_pos h]
  match r with
  | [] => rcases h with rfl | rfl <;> exact ⟨_, false, rfl, rfl⟩
  | [x] =>
   obtain ⟨y, b, e1, e2⟩ := zeca (R := R) x (fun r6 r7 => K (r6, zG.2) r7)
   refine ⟨(y, zG.2), b, ?_, ?_⟩
   ·rcases h with rfl | rfl <;> exact e1
   ·simp only [sizeE, e2]
    cases b <;> rfl
  | [x, m] =>
   obtain ⟨y, b, e1, e2⟩ := zeca (R := R) x (fun r6 _ => K (r6, zG.2) false)
   refine ⟨(y, zG.2), false, ?_, rfl⟩
   rcases h with rfl | rfl <;> exact e1
  | [x, m, y] =>
   by_cases hm : m = maxW
   ·subst hm
    obtain ⟨n, b, e1, e2⟩ := zeca (R := R) x (fun r6 r7 => zaaa y fun r17 r18 => cond r7 (K (r6, (true, (r17, zG.2.2.2))) r18) (K (r6, (true, (r17, zG.2.2.2))) false))
    obtain ⟨k, c, e3, e4⟩ := zeca (R := R) y (fun r17 r18 => cond b (K (n, (true, (r17, zG.2.2.2))) r18) (K (n, (true, (r17, zG.2.2.2))) false))
    refine ⟨(n, (true, (k, zG.2.2.2))), b && c, ?_, ?_⟩
    ·have : zWaa (a :: [x, maxW, y]) K = zaaa x (fun r6 r7 => zaaa y fun r17 r18 => cond r7 (K (r6, (true, (r17, zG.2.2.2))) r18) (K (r6, (true, (r17, zG.2.2.2))) false)) := by rcases h with rfl | rfl <;> rfl
     refine this.trans (e1.trans (e3.trans ?_))
     cases b <;> rfl
    ·simp only [sizeE, if_true, e2, e4]
     cases b <;> cases c <;> rfl
   ·have f : (m == ([109, 97, 120] : List UInt8)) = false := by simpa using hm
    obtain ⟨n, b, e1, e2⟩ := zeca (R := R) x (fun r6 _ => K (r6, zG.2) false)
    refine ⟨(n, zG.2), false, ?_, by simp only [sizeE, if_neg hm]; rfl⟩
    ·have e0 : zWaa (a :: [x, m, y]) K = zaaa x (fun r6 r7 => cond (!(m == ([109, 97, 120] : List UInt8))) (K (r6, zG.2) false) (zaaa y fun r17 r18 => cond r7 (K (r6, (true, (r17, zG.2.2.2))) r18) (K (r6, (true, (r17, zG.2.2.2))) false))) := by rcases h with rfl | rfl <;> rfl
     rw [e0, f]
     exact e1
  | x :: m :: y :: z :: r =>
   obtain ⟨n, b, e1, e2⟩ := zeca (R := R) x (fun r6 _ => K (r6, zG.2) false)
   refine ⟨(n, zG.2), false, ?_, rfl⟩
   refine Eq.trans ?_ e1
   unfold zWaa zJda zuea
   have l2 : decide (((List.length (a :: x :: m :: y :: z :: r) : Nat) : Int) ≥ 2) = true := by simp only [List.length_cons, decide_eq_true_eq]; omega
   have l0 : inB (0 : Int) (List.length (a :: x :: m :: y :: z :: r)) = true := by unfold inB; simp only [List.length_cons, Bool.and_eq_true, decide_eq_true_eq]; omega
   have l1 : inB (1 : Int) (List.length (a :: x :: m :: y :: z :: r)) = true := by unfold inB; simp only [List.length_cons, Bool.and_eq_true, decide_eq_true_eq]; omega
   have l3 : (((List.length (a :: x :: m :: y :: z :: r) : Nat) : Int) == 2) = false := by simp only [List.length_cons, beq_eq_false_iff_ne]; omega
   have l4 : (((List.length (a :: x :: m :: y :: z :: r) : Nat) : Int) != 4) = true := by simp only [List.length_cons, bne_iff_ne]; omega
   simp only [l2, l0, l1, l3, l4, cond_true, cond_false]
   rcases h with rfl | rfl <;> rfl
 ·rw [if_neg h]
  have h1 : (a == ([116, 97, 98, 108, 101] : List UInt8)) = false := by simpa using fun hc => h (.inl hc)
  have h2 : (a == ([109, 101, 109, 111, 114, 121] : List UInt8)) = false := by simpa using fun hc => h (.inr hc)
  have l0 : inB (0 : Int) (List.length (a :: r)) = true := by unfold inB; simp only [List.length_cons, Bool.and_eq_true, decide_eq_true_eq]; omega
  have l1 : decide (((List.length (a :: r) : Nat) : Int) > 0) = true := by simp only [List.length_cons, decide_eq_true_eq]; omega
  have e0 : zWaa (a :: r) K = zIda (fun w6 w7 w8 =>
 zkca (fun w9 w10 =>
 K w9 w10) (fun w11 w12 w13 =>
 zHda (fun w14 w15 w16 =>
 cond (inB (1 : Int) (List.length w14))
 (let v17 := List.getD w14 (1 : Int).toNat ([] : List UInt8)
 zQaa v17 fun r18 r19 =>
 K (w16.1, (w16.2.1, (w16.2.2.1, (w16.2.2.2.1, (w16.2.2.2.2.1, (r18, w16.2.2.2.2.2.2)))))) r19) none) ⟨w11, w12, (w13.1, (w13.2.1, (w13.2.2.1, ((127 : Int), w13.2.2.2.2))))⟩) ⟨w6, w7, w8⟩) ⟨a :: r, zG, zG⟩ := by
   unfold zWaa zJda
   simp only [l0, cond_true, show (0 : Int).toNat = 0 from rfl, List.getD_cons_zero, h1, h2, cond_false]
   cases decide (((List.length (a :: r) : Nat) : Int) ≥ 2) <;> rfl
  rw [e0]
  unfold zIda
  simp only [l1, l0, cond_true, show (0 : Int).toNat = 0 from rfl, List.getD_cons_zero]
  by_cases h3 : a = varW
  ·rw [if_pos h3, h3]
   rw [show (varW == ([118, 97, 114] : List UInt8)) = true from rfl, cond_true, show inR (1 : Int) ((List.length (varW :: r) : Nat) : Int) (List.length (varW :: r)) = true by unfold inR; simp only [List.length_cons, Bool.and_eq_true, decide_eq_true_eq]; omega, cond_true, zmla]
   exact zvwa r true K
  ·rw [if_neg h3, show (a == ([118, 97, 114] : List UInt8)) = false by simpa using h3, cond_false]
   exact zvwa (a :: r) false K
end
end Go.Trm.G1
