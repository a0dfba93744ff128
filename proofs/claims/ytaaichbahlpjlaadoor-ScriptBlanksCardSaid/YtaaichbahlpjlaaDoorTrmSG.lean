import Derived.Test.YtaaichbahlpjlaaDoorCards
import Derived.Test.YtaaichbahlpjlaaDoorTie
import Derived.SevenTiedAt
import Derived.Test.YtaaichbahlpjlaaDoorTrmGls
import Derived.Test.YtaaichbahlpjlaaDoorTrmG1
import Derived.IntWalk
import Derived.Test.YtaaichbahlpjlaaDoorTrmPt
set_option linter.unusedVariables false
set_option linter.unusedSimpArgs false
namespace Go.Proofs.YtaaichbahlpjlaaDoor.scriptBlanks
open Go.ChangeShapes Go.WideShapes Go.ChangeAt Go.RowKit Go.Trm Go.Trm.G1
open Go.ChangeMaps (open_string shut_string)
theorem own : ownKnob Tryd.prog.godebug = none := by kernel_rfl
theorem zuxa : laidOutB Tryd.prog = true := by kernel_rfl
def Pure : Prop := ∀ (a0 : List UInt8) (a1 : List Int), a0.length ≤ 140737488351232 → a1.length * 1 ≤ 140737488351232 → (∀ n ∈ a1, IntKind.u8.has n) → zTba a0 a1 Yes = some ()
set_option maxRecDepth 100000 in
theorem zjya (pure : Pure) (os : Os) (started : os.Started) (H : Type) (enc : TypeId × Value → H) :
  ReturnsInHanded {} Tryd.checked os 4 .any (fun w args => (Rows.scriptBlanksSpec.pre enc Tryd.prog Tryd.f4 Rows.scriptBlanksRow.domain false w args ∧ laidMetH Tryd.prog Rows.scriptBlanksRow.laid w) ∧ sizedMet enc Tryd.prog Tryd.f4 (OpenSpec.ofChange Rows.scriptBlanksSpec) false w args) (Rows.scriptBlanksSpec.post enc Tryd.prog Tryd.f4 false true false false) := by
 refine zRea (C := Tryd.checked) (X := fun w _ => laidMetH Tryd.prog Rows.scriptBlanksRow.laid w) (fun _ _ _ hh h => h.of_heap hh) own started (by kernel_rfl) Tryd.func4
  (ChangeSpec.witness_shaped (enc := enc) (C := Tryd.checked) (os := os) (X := fun w _ => laidMetH Tryd.prog Rows.scriptBlanksRow.laid w) false (World.laidAll Tryd.prog os Rows.scriptBlanksRow.laid) #[.string ByteArray.empty, .slice none 0 0] 8 (World.laidAll_os _ _ _)
   (World.shaped_of_ZipB (by kernel_rfl) (by kernel_rfl)) (by kernel_rfl) (by kernel_rfl) (by kernel_rfl) (by rw [MakeChecks.laidMetH_plain _ _ _ (by kernel_rfl)]; exact laidMet_laidAll _ (by kernel_rfl) (by kernel_rfl))) ?_
 intro W base args ds gs before hval0 hW _ hsz0 hL hshape
 have hsz : (DataW.weightsEach Tryd.prog (Tryd.f4.params.toList ++ Rows.scriptBlanksSpec.plain.varTypes Tryd.prog) (ds ++ gs)).all (· ≤ reachBytes) = true := hsz0
 have hval : ∀ (j : Nat) t v, Tryd.f4.params[j]? = some t → args[j]? = some v → Value.okWide Tryd.prog W .any base t v := hval0
 have hW' := hW
 obtain ⟨p, q, hA0, hV, rfl, hfz, hnd⟩ := hW
 have hA : DataW.TrodAll enc Tryd.prog W 0 (fun _ => true) true Tryd.f4.params.toList args.toList ds p := hA0
 rw [Tryd.params4] at hA hval hsz
 obtain ⟨v0, vs0, d0, ds0, p0, q0, hargs, rfl, rfl, h0, r0⟩ := trodAll_cons hA
 obtain ⟨v1, vs1, d1, ds1, p1, q1, rfl, rfl, rfl, h1, r1⟩ := trodAll_cons r0
 obtain ⟨rfl, rfl, rfl⟩ := trodAll_nil r1
 obtain rfl : args = #[v0, v1] := by cases args; simp_all
 obtain ⟨rfl, rfl⟩ := trodVars_none hV
 obtain ⟨a0, rfl, rfl, rfl, y0⟩ := open_string Tryd.underlying9 (hval 0 9 v0 rfl rfl) h0
 have u0 : a0.data.toList.length ≤ 140737488351232 := sized_string hsz (j := 0) (t := 9) rfl rfl
 have lt1 : ∀ x ∈ p1, x.block < W.heap.size := by obtain ⟨m, hm⟩ := h1; exact DataW.trod_lt m _ _ _ hm
 obtain ⟨a1, y1, z1, w1⟩ := zAta Tryd.underlying31 Tryd.underlying5 (by kernel_rfl) (hval 1 31 v1 rfl rfl) h1
 have u1 : a1.length * 1 ≤ 140737488351232 := zgta hsz (j := 1) (t := 31) rfl rfl Tryd.underlying31 Tryd.underlying5 (by kernel_rfl) (by kernel_rfl) h1 y1
 clear hA0 hval0 hsz0 hsz
 refine (zhua (fn := fun d K Kp => cs_law26_ScriptBlanks.fn d K Kp) zlka (d := (a0.data.toList, a1, ())) (zFxa (by rw [← MakeChecks.laidMetH_plain _ _ _ (by kernel_rfl)]; exact hL) (by simp only [Rows.scriptBlanksRow, List.mem_cons, true_or, or_true]) (by simp only [Rows.scriptBlanksRow, List.mem_cons, true_or, or_true]) hshape) (zCra (zcva a0 y0) (zCra y1 ztwa)) (pure a0.data.toList a1 u0 u1 w1)).mono fun e W' ⟨he, bel⟩ => ?_
 subst he
 exact ⟨_, rfl, _, _, _, [], _, [], hW', trodAll_mk1 (shut_bool Tryd.underlying4 _), (trodAll_cons_mk (shut_string Tryd.underlying9 y0) (trodAll_cons_mk (Below.trod zuxa (by kernel_rfl) (of_decide_eq_true (by kernel_rfl)) h1 bel lt1) trodAll_mk0)), rfl, bel.frame _, fun h => by cases h⟩
theorem over (pure : Pure) : Rows.scriptBlanksRow.holds Tryd.pinned (OpenSpec.ofChange Rows.scriptBlanksSpec) :=
 OpenClaim.holds_of_wide 4 Tryd.f4 rfl rfl rfl rfl rfl rfl rfl ⟨rfl, rfl, rfl, rfl, rfl⟩ rfl rfl rfl rfl rfl (by kernel_rfl) Tryd.func4 (by kernel_rfl)
  (of_decide_eq_true (by kernel_rfl)) (by unfold Func.isWrapper; first | (rw [if_pos (by decide +kernel)]; kernel_rfl) | (rw [if_neg (by decide +kernel)]; exact ⟨rfl, rfl⟩))
  (fun os started H enc _ => zjya pure os started H enc)
theorem carded (pure : Pure) : Rows.ScriptBlanksCardSaid :=
 Claim7.holds_tied_plain_at .later [] Rows.scriptBlanksCard.laidKinds true Rows.scriptBlanksCard.stood.harness true (over pure) (fun _ h => by cases h) (by kernel_rfl) (fun _ h => by cases h) scriptBlanks_row_tie rfl ⟨rfl, rfl⟩ (by kernel_rfl) rfl
  (fun f fn hf hfn => by
   obtain rfl : f = 4 := Option.some.inj ((show Tryd.prog.funcNamed "trammel/trammellaw26.ScriptBlanks" = some 4 by kernel_rfl).symm.trans hf) |>.symm
   obtain rfl : fn = Tryd.f4 := (Option.some.inj (Tryd.func4.symm.trans hfn)).symm
   exact ⟨by kernel_rfl, fun j t ht => by
    rw [Tryd.params4] at ht
    have hm : t ∈ [9, 31] := by simpa using Array.mem_of_getElem? ht
    have hall : ([9, 31].all fun u => !Tryd.prog.wantsStandIn u) = true := by kernel_rfl
    exact (show Tryd.prog.wantsStandIn t = false by simpa using List.all_eq_true.1 hall t hm)⟩)
  (by kernel_rfl)
end Go.Proofs.YtaaichbahlpjlaaDoor.scriptBlanks
namespace Go.Trm
theorem znaa {X R : Type} (B : (X → Option R) → X → Option R) (n : Nat) (x : X) : loopN B (n + 1) x = B (loopN B n) x := rfl
theorem zTca (k : Nat) (h : k ≤ 18446744073709551616) : ∃ m, zyfa = m + k := ⟨zyfa - k, by have := zura; omega⟩
theorem zyya {k : Nat} (h : k < 18446744073709551616) : k < zyfa := by rw [zura]; exact h
section
variable {α : Type}
theorem zgaa {p : Prop} [Decidable p] {a b : α} : cond (decide p) a b = if p then a else b := by by_cases h : p <;> simp [h]
theorem zoja {b : Bool} {x y : α} : cond (!b) x y = cond b y x := by cases b <;> rfl
theorem zdfa {β : Type} [BEq β] [LawfulBEq β] [DecidableEq β] {u v : β} {a b : α} : cond (u == v) a b = if u = v then a else b := by
 by_cases h : u = v
 ·subst h; simp
 ·have : (u == v) = false := by simpa using h
  rw [this, if_neg h]; rfl
theorem zpha {β : Type} [BEq β] [LawfulBEq β] [DecidableEq β] {u v : β} {a b : α} : cond (u != v) a b = if u = v then b else a := by
 by_cases h : u = v
 ·subst h; simp
 ·have : (u != v) = true := by simpa using h
  rw [this, if_neg h]; rfl
theorem zOaa {i : Int} {n : Nat} {a b : α} : cond (inB i n) a b = if 0 ≤ i ∧ i < n then a else b := by
 unfold inB; by_cases h0 : 0 ≤ i <;> by_cases h1 : i < n <;> simp [h0, h1]
theorem zpja {l h : Int} {n : Nat} {a b : α} : cond (inR l h n) a b = if 0 ≤ l ∧ l ≤ h ∧ h ≤ n then a else b := by
 unfold inR; by_cases h0 : 0 ≤ l <;> by_cases h1 : l ≤ h <;> by_cases h2 : h ≤ n <;> simp [h0, h1, h2]
theorem zAya {b : Bool} {x y : α} : cond b x y = if b = true then x else y := by cases b <;> rfl
end
theorem w_i64 {n : Int} (h : -9223372036854775808 ≤ n ∧ n ≤ 9223372036854775807) : IntKind.i64.wrap n = n := IntWalk.i64_in n h
theorem w_u8 {n : Int} (h : 0 ≤ n ∧ n ≤ 255) : IntKind.u8.wrap n = n := by
 have : IntKind.u8.wrap n = n % 256 := rfl
 omega
theorem w_u64 {n : Int} (h : 0 ≤ n ∧ n ≤ 18446744073709551615) : IntKind.u64.wrap n = n := by
 have : IntKind.u64.wrap n = n % 18446744073709551616 := rfl
 omega
theorem w_u32 {n : Int} (h : 0 ≤ n ∧ n ≤ 4294967295) : IntKind.u32.wrap n = n := by
 have : IntKind.u32.wrap n = n % 4294967296 := rfl
 omega
theorem zfya (l : List UInt8) : (nums l).length = l.length := by simp [nums]
theorem zBya (l : List UInt8) (i : Int) : bt l i = (nums l).getD i.toNat 0 := by
 simp only [bt, nums, List.getD_eq_getElem?_getD, List.getElem?_map]
 cases l[i.toNat]? <;> rfl
theorem zgya (l : List UInt8) (i : Nat) : 0 ≤ (nums l).getD i 0 ∧ (nums l).getD i 0 ≤ 255 := by
 simp only [nums, List.getD_eq_getElem?_getD, List.getElem?_map]
 cases h : l[i]? with
 | none => simp
 | some b =>
  have := b.toNat_lt
  simp only [Option.map_some, Option.getD_some]
  omega
theorem zxya (l : List UInt8) : ∀ n ∈ nums l, IntKind.u8.has n := by
 intro n hn
 obtain ⟨b, _, rfl⟩ := List.mem_map.1 hn
 have := b.toNat_lt
 show (0 : Int) ≤ _ ∧ _ ≤ (255 : Int)
 omega
theorem zYxa (l : List UInt8) : u8s (nums l) = l := by
 simp only [u8s, nums, List.map_map]
 conv => rhs; rw [← List.map_id l]
 apply List.map_congr_left
 intro b _
 simp
theorem zeya {l : List Int} (h : ∀ n ∈ l, IntKind.u8.has n) : nums (u8s l) = l := by
 simp only [u8s, nums, List.map_map]
 conv => rhs; rw [← List.map_id l]
 apply List.map_congr_left
 intro n hn
 obtain ⟨h0, h1⟩ := h n hn
 have h0 : (0 : Int) ≤ n := h0
 have h1 : n ≤ 255 := h1
 simp only [Function.comp, id]
 rw [UInt8.toNat_ofNat']
 omega
theorem zTxa (l : List Int) (i j : Nat) : (l.drop i).getD j 0 = l.getD (i + j) 0 := by
 simp [List.getD_eq_getElem?_getD, List.getElem?_drop]
end Go.Trm
namespace Go.Trm.G1
abbrev W := List UInt8
abbrev RS := List W × Bool × Unit
theorem bt_at (l : W) (i : Nat) : bt l (i : Int) = ((l.getD i 0).toNat : Int) := by
 simp only [bt, Int.toNat_natCast, List.getD_eq_getElem?_getD]
theorem bt_0 (b : UInt8) (l : W) : bt (b :: l) (0 : Int) = (b.toNat : Int) := rfl
def decF (acc : Nat) : W → Option Nat
 | [] => some acc
 | b :: l => if 48 ≤ b.toNat ∧ b.toNat ≤ 57 ∧ acc * 10 + (b.toNat - 48) ≤ 18446744073709551615 then decF (acc * 10 + (b.toNat - 48)) l else none
def wv : W → Option Nat
 | [] => none
 | b :: l => if b = 48 ∧ l ≠ [] then none else decF 0 (b :: l)
theorem zpoa (b : UInt8) (l : W) : wv (b :: l) = if b = 48 ∧ l ≠ [] then none else decF 0 (b :: l) := rfl
theorem zUka (acc : Nat) (b : UInt8) (l : W) : decF acc (b :: l) = if 48 ≤ b.toNat ∧ b.toNat ≤ 57 ∧ acc * 10 + (b.toNat - 48) ≤ 18446744073709551615 then decF (acc * 10 + (b.toNat - 48)) l else none := rfl
theorem zvta : ∀ (l : W) (acc n : Nat), acc ≤ 18446744073709551615 → decF acc l = some n → n ≤ 18446744073709551615
 | [], acc, n, h, e => by simp only [decF, Option.some.injEq] at e; omega
 | b :: l, acc, n, h, e => by
  unfold decF at e
  split at e
  ·rename_i hc; exact zvta l _ n hc.2.2 e
  ·cases e
theorem wv_le {s : W} {n : Nat} (h : wv s = some n) : n ≤ 18446744073709551615 := by
 cases s with
 | nil => cases h
 | cons b l =>
  rw [zpoa] at h
  split at h
  ·cases h
  ·exact zvta _ 0 n (by omega) h
theorem zgva {b : UInt8} {l : W} {n : Nat} (h : wv (b :: l) = some n) : 48 ≤ b.toNat ∧ b.toNat ≤ 57 := by
 rw [zpoa] at h
 split at h
 ·cases h
 ·rw [zUka] at h
  split at h
  ·rename_i hc; exact ⟨hc.1, hc.2.1⟩
  ·cases h
theorem zgra : ∀ (l : W) (acc : Nat), acc ≤ 18446744073709551615 → (match Lib.parseUintM (2 ^ 64 - 1) acc l with | .ok n => decF acc l = some n | _ => decF acc l = none)
 | [], acc, h => rfl
 | b :: l, acc, h => by
  unfold Lib.parseUintM decF
  by_cases h1 : 48 ≤ b.toNat ∧ b.toNat ≤ 57
  ·rw [if_pos h1]
   by_cases h2 : 1844674407370955162 ≤ acc
   ·rw [if_pos h2, if_neg (by omega)]
   ·rw [if_neg h2]
    by_cases h3 : 2 ^ 64 - 1 < acc * 10 + (b.toNat - 48)
    ·rw [if_pos h3, if_neg (by omega)]
    ·rw [if_neg h3, if_pos ⟨h1.1, h1.2, by omega⟩]
     exact zgra l _ (by omega)
  ·rw [if_neg h1, if_neg (fun h => h1 ⟨h.1, h.2.1⟩)]
theorem zYta {s : W} (hs : s ≠ []) : (∃ n, decF 0 s = some n ∧ zdka s = ((n : Int), false)) ∨ (decF 0 s = none ∧ (zdka s).2 = true) := by
 have h := zgra s 0 (by omega)
 unfold zdka Lib.parseUintB
 rw [if_neg hs]
 cases hp : Lib.parseUintM (2 ^ 64 - 1) 0 s with
 | ok n => rw [hp] at h; exact .inl ⟨n, h, rfl⟩
 | «syntax» => rw [hp] at h; exact .inr ⟨h, rfl⟩
 | range => rw [hp] at h; exact .inr ⟨h, rfl⟩
section
variable {R : Type}
theorem zJqa (x : Int) (K : Bool → Option R) : zuca x K = K (decide (48 ≤ x ∧ x ≤ 57)) := by
 unfold zuca
 simp only [zgaa]
 by_cases h1 : 48 ≤ x
 ·rw [if_pos (show x ≥ 48 from h1)]
  by_cases h2 : x ≤ 57 <;> simp [h1, h2]
 ·rw [if_neg (show ¬ x ≥ 48 from h1)]
  simp [h1]
def nextM : RS → W × RS
 | ([], _, u) => ([], ([], true, u))
 | (w :: ws, b, u) => (w, (ws, b, u))
theorem zxpa (a : RS) (K : Bool → RS → Option R) : zhaa a K = K (!a.1.isEmpty) a := by
 unfold zhaa
 obtain ⟨ws, b⟩ := a
 cases ws with
 | nil => rfl
 | cons w ws =>
  have : decide (((List.length (w :: ws) : Nat) : Int) > 0) = true := by simp only [List.length_cons, decide_eq_true_eq]; omega
  simp only [this]
  rfl
theorem zola {α : Type} (x : α) (l : List α) : rng (x :: l) (1 : Int) ((List.length (x :: l) : Nat) : Int) = l := by
 simp only [rng, Int.toNat_natCast, List.take_length]
 rfl
theorem zuoa (a : RS) (K : W → RS → Option R) : zqaa a K = K (nextM a).1 (nextM a).2 := by
 unfold zqaa
 rw [zxpa]
 obtain ⟨ws, b, u⟩ := a
 cases ws with
 | nil => rfl
 | cons w ws =>
  simp only [List.isEmpty_cons, zOaa, zpja, zola, Bool.not_false, Bool.not_true, cond_false]
  rw [if_pos (by simp only [List.length_cons]; omega), if_pos (by simp only [List.length_cons]; omega)]
  rfl
def isM (w : W) : RS → Bool × RS
 | ([], b, u) => (false, ([], b, u))
 | (x :: ws, b, u) => if x = w then (true, (ws, b, u)) else (false, (x :: ws, b, u))
theorem is_eq (a : RS) (w : W) (K : Bool → RS → Option R) : zeaa a w K = K (isM w a).1 (isM w a).2 := by
 unfold zeaa
 rw [zxpa]
 obtain ⟨ws, b, u⟩ := a
 cases ws with
 | nil => rfl
 | cons x ws =>
  simp only [List.isEmpty_cons, zOaa, Bool.not_false, Bool.not_true, cond_false, zoja, zuoa]
  rw [if_pos (by simp only [List.length_cons]; omega)]
  simp only [show (0 : Int).toNat = 0 from rfl, List.getD_cons_zero, zdfa, isM]
  by_cases h : x = w
  ·rw [if_pos h, if_pos h]; rfl
  ·rw [if_neg h, if_neg h]
def ztha (a : RS) : Int × RS := match wv (nextM a).1 with
 | some n => ((n : Int), (nextM a).2)
 | none => (0, ((nextM a).2.1, (true, (nextM a).2.2.2)))
abbrev small (ws : List W) : Prop := ∀ w ∈ ws, w ≠ [] ∧ w.length ≤ most
theorem zwpa {a : RS} (h : small a.1) : small (nextM a).2.1 ∧ (nextM a).1.length ≤ most := by
 obtain ⟨ws, b, u⟩ := a
 cases ws with
 | nil => exact ⟨h, by simp [nextM]⟩
 | cons w ws => exact ⟨fun x hx => h x (List.mem_cons_of_mem _ hx), (h w List.mem_cons_self).2⟩
theorem zaqa (a : RS) (h : small a.1) (K : Int → RS → Option R) : zHaa a K = K (ztha a).1 (ztha a).2 := by
 unfold zHaa ztha
 rw [zuoa]
 have hl := (zwpa h).2
 generalize (nextM a).2 = b
 generalize (nextM a).1 = s at hl
 simp only [zRfa, zQia]
 rw [show ((10 : Int) == 10 && (64 : Int) == 64 && decide (s.length ≤ most)) = true by simp [hl]]
 simp only [cond_true]
 cases s with
 | nil => rfl
 | cons c l =>
  rcases zYta (s := c :: l) (by simp) with ⟨n, h1, h2⟩ | ⟨h1, h2⟩
  ·rw [h2]
   have hd : 48 ≤ c.toNat ∧ c.toNat ≤ 57 := by
    have h3 := h1
    rw [zUka] at h3
    split at h3
    ·rename_i hc; exact ⟨hc.1, hc.2.1⟩
    ·cases h3
   simp only [cond_false, zOaa, zJqa, bt_0]
   rw [if_pos (by simp only [List.length_cons]; omega), if_pos (by simp only [List.length_cons]; omega)]
   rw [show decide ((48 : Int) ≤ (c.toNat : Int) ∧ (c.toNat : Int) ≤ 57) = true by simp only [decide_eq_true_eq]; omega]
   simp only [Bool.not_true, cond_false, zdfa, zgaa]
   rw [zpoa]
   by_cases h4 : c = 48
   ·subst h4
    rw [if_pos (by rfl)]
    cases l with
    | nil =>
     rw [if_neg (by simp), if_neg (by simp), h1]
    | cons y l =>
     rw [if_pos (by simp only [List.length_cons]; omega), if_pos (by simp)]
   ·rw [if_neg (fun hc => h4 (UInt8.toNat_inj.1 (by show c.toNat = 48; omega))), if_neg (fun hc => h4 hc.1), h1]
  ·have : wv (c :: l) = none := by
    rw [zpoa]
    split
    ·rfl
    ·exact h1
   rw [h2, this]
   rfl
def zHea (a : RS) : Int × RS := if (ztha a).1 ≥ 4294967296 then (0, ((ztha a).2.1, (true, (ztha a).2.2.2))) else ztha a
theorem zIta (a : RS) : 0 ≤ (ztha a).1 := by
 unfold ztha
 split
 ·simp
 ·exact Int.le_refl _
theorem zAha (a : RS) (h : small a.1) (K : Int → RS → Option R) : zbaa a K = K (zHea a).1 (zHea a).2 := by
 unfold zbaa zHea
 rw [zaqa a h]
 have := zIta a
 simp only [zgaa]
 split
 ·rfl
 ·rw [w_i64 (by omega)]
end
end Go.Trm.G1
namespace Go.Trm.G1
def hexD (b : UInt8) : Option Nat := if 48 ≤ b.toNat ∧ b.toNat ≤ 57 then some (b.toNat - 48) else if 97 ≤ b.toNat ∧ b.toNat ≤ 102 then some (b.toNat - 87) else none
abbrev zVwa : W := [48, 49, 50, 51, 52, 53, 54, 55, 56, 57, 97, 98, 99, 100, 101, 102]
theorem zoua : ∀ n : Fin 256, Lib.indexByte zVwa (UInt8.ofNat n.val) = match hexD (UInt8.ofNat n.val) with | some n => (n : Int) | none => -1 := by decide +kernel
theorem znra (b : UInt8) : Lib.indexByte zVwa b = match hexD b with | some n => (n : Int) | none => -1 := by
 have h := zoua ⟨b.toNat, b.toNat_lt⟩
 simp only [UInt8.ofNat_toNat] at h
 exact h
theorem zqra {b : UInt8} {n : Nat} (h : hexD b = some n) : n ≤ 15 := by
 unfold hexD at h
 split at h
 ·cases h; omega
 ·split at h
  ·cases h; omega
  ·cases h
def hexs : W → Option (List Int)
 | [] => some []
 | [_] => none
 | a :: b :: l => match hexD a, hexD b, hexs l with
  | some x, some y, some r => some (((16 * x + y : Nat) : Int) :: r)
  | _, _, _ => none
def hexW (s : W) : Option (List Int) := if s = [] then none else hexs s
theorem zVma (a b : UInt8) (l : W) : hexs (a :: b :: l) = match hexD a, hexD b, hexs l with
  | some x, some y, some r => some (((16 * x + y : Nat) : Int) :: r)
  | _, _, _ => none := rfl
theorem zjta : ∀ (n : Nat) (l : W), l.length ≤ n → l.length % 2 ≠ 0 → hexs l = none := by
 intro n
 induction n with
 | zero => intro l h1 h2; omega
 | succ n ih =>
  intro l h1 h2
  match l with
  | [] => simp at h2
  | [_] => rfl
  | a :: b :: l =>
   simp only [List.length_cons] at h1 h2
   rw [zVma, ih l (by omega) (by omega)]
   split
   ·rename_i h; cases h
   ·rfl
section
variable {R : Type}
theorem zFda {α : Type} (l : List α) (i : Nat) (d : α) (h : i < l.length) : l.drop i = l.getD i d :: l.drop (i + 1) := by
 rw [List.drop_eq_getElem_cons h, List.getD_eq_getElem?_getD, List.getElem?_eq_getElem h, Option.getD_some]
theorem zEua (b : UInt8) : ((b.toNat : Nat) : Int).toNat.toUInt8 = b := by simp
theorem zZva (kr : List Int → RS → Option R) (kx : List Int → RS → Option R) (s : W) (b : RS) (he : s.length % 2 = 0) (hs : s.length ≤ most) :
  ∀ (n i : Nat) (out : List Int), s.length ≤ i + n → i ≤ s.length → i % 2 = 0 → out.length ≤ i → loopN (zLaa kr kx) (n + 1) ⟨s, out, (i : Int), b⟩ =
   match hexs (s.drop i) with | some r => kx (out ++ r) b | none => kr [] (b.1, (true, b.2.2)) := by
 intro n
 induction n with
 | zero =>
  intro i out h1 h2 h3 h4
  rw [znaa]
  unfold zLaa
  simp only [zgaa]
  rw [if_neg (by omega), List.drop_of_length_le (by omega)]
  simp [hexs]
 | succ n ih =>
  intro i out h1 h2 h3 h4
  have hm : most = 4294967296 := rfl
  rw [znaa]
  generalize hrec : loopN (zLaa kr kx) (n + 1) = rec at ih ⊢
  unfold zLaa
  simp only [zgaa, zOaa, zqda, zRia]
  by_cases hi : i < s.length
  ·rw [if_pos (by omega), if_pos ⟨by omega, by omega⟩, w_i64 (by omega), if_pos ⟨by omega, by omega⟩, show (i : Int) + 1 = ((i + 1 : Nat) : Int) by omega, bt_at, bt_at, zEua, zEua, znra, znra]
   rw [zFda s i 0 hi, zFda s (i + 1) 0 (by omega), zVma]
   cases h5 : hexD (s.getD i 0) with
   | none => simp only; rw [if_pos (by omega)]
   | some x =>
    have hx := zqra h5
    rw [if_neg (by simp only; omega)]
    cases h6 : hexD (s.getD (i + 1) 0) with
    | none => simp only; rw [if_pos (by omega)]
    | some y =>
     have hy := zqra h6
     simp only
     rw [if_neg (by omega), if_pos (by simp only [List.length_set, List.length_replicate]; omega)]
     rw [w_i64 (n := (i : Int) + 2) (by omega), show (i : Int) + 2 = ((i + 2 : Nat) : Int) by omega]
     rw [w_i64 (n := (16 : Int) * (x : Int)) (by omega), w_i64 (n := (16 : Int) * (x : Int) + (y : Int)) (by omega), w_u8 (by omega)]
     rw [ih (i + 2) _ (by omega) (by omega) (by omega) (by simp only [List.length_append, List.length_set, List.length_replicate]; omega)]
     cases hexs (s.drop (i + 2)) with
     | none => rfl
     | some r =>
      simp only [List.append_assoc]
      rw [show ((16 * x + y : Nat) : Int) = (16 : Int) * (x : Int) + (y : Int) by omega]
      rfl
  ·rw [if_neg (by omega), List.drop_of_length_le (by omega)]
   simp [hexs]
def hexM (a : RS) : List Int × RS := match hexW (nextM a).1 with
 | some l => (l, (nextM a).2)
 | none => ([], ((nextM a).2.1, (true, (nextM a).2.2.2)))
theorem zCxa (a : RS) (h : small a.1) (K : List Int → RS → Option R) : zzaa a K = K (hexM a).1 (hexM a).2 := by
 unfold zzaa hexM
 rw [zuoa]
 have hl := (zwpa h).2
 generalize (nextM a).2 = b
 generalize (nextM a).1 = s at hl
 have hm : most = 4294967296 := rfl
 simp only [zdfa, zpha]
 by_cases h0 : s = []
 ·subst h0; rw [if_pos (by rfl)]; rfl
 have hp : 0 < s.length := by cases s <;> simp at h0 ⊢
 rw [if_neg (by omega), if_neg (by decide)]
 unfold hexW
 rw [if_neg h0]
 have ht : Int.tmod ((s.length : Nat) : Int) 2 = ((s.length % 2 : Nat) : Int) := rfl
 rw [ht]
 by_cases h1 : s.length % 2 = 0
 ·rw [if_pos (by omega)]
  obtain ⟨m, hf⟩ := zTca (s.length + 1) (by omega)
  rw [hf]
  have := zZva (R := R) (fun w8 w9 => K w8 w9) (fun w10 w11 => K w10 w11) s b h1 hl (m + s.length) 0 [] (by omega) (by omega) rfl (by simp)
  refine Eq.trans this ?_
  rw [List.drop_zero]
  cases hexs s <;> rfl
 ·rw [if_neg (by omega), zjta _ s (Nat.le_refl _) h1]
def nameC (b : UInt8) : Bool := (48 ≤ b.toNat && b.toNat ≤ 57) || b.toNat == 95 || (97 ≤ b.toNat && b.toNat ≤ 122)
def zQoa (s : W) : Bool := decide (1 ≤ s.length) && decide (s.length ≤ 16) && s.all nameC
theorem zXsa (kr : Bool → Option R) (kx : Option R) (s : W) (hs : s.length ≤ 16) :
  ∀ (n i : Nat), s.length ≤ i + n → i ≤ s.length → loopN (zQba kr kx) (n + 1) ⟨s, ((s.length : Nat) : Int), (i : Int)⟩ = cond ((s.drop i).all nameC) kx (kr false) := by
 intro n
 induction n with
 | zero =>
  intro i h1 h2
  rw [znaa]
  unfold zQba
  simp only [zgaa]
  rw [if_neg (by omega), List.drop_of_length_le (by omega)]
  rfl
 | succ n ih =>
  intro i h1 h2
  rw [znaa]
  generalize loopN (zQba kr kx) (n + 1) = rec at ih ⊢
  unfold zQba
  simp only [zgaa, zOaa, zJqa, zoja, zpha]
  by_cases hi : i < s.length
  ·rw [if_pos (by omega), if_pos ⟨by omega, by omega⟩, w_i64 (by omega), show (i : Int) + 1 = ((i + 1 : Nat) : Int) by omega, bt_at, ih (i + 1) (by omega) (by omega), zFda s i 0 hi]
   generalize s.getD i 0 = b
   rw [List.all_cons]
   have e : nameC b = decide ((48 ≤ b.toNat ∧ b.toNat ≤ 57) ∨ b.toNat = 95 ∨ (97 ≤ b.toNat ∧ b.toNat ≤ 122)) := by
    unfold nameC
    rw [Bool.eq_iff_iff]
    simp only [Bool.or_eq_true, Bool.and_eq_true, decide_eq_true_eq, beq_iff_eq]
    omega
   rw [e]
   generalize List.all (s.drop (i + 1)) nameC = z
   by_cases c1 : 48 ≤ b.toNat ∧ b.toNat ≤ 57
   ·rw [if_pos (by omega), decide_eq_true (by omega)]; rfl
   ·rw [if_neg (by omega)]
    by_cases c2 : b.toNat = 95
    ·rw [if_pos (by omega), decide_eq_true (by omega)]; rfl
    ·rw [if_neg (by omega)]
     by_cases c3 : 97 ≤ b.toNat
     ·rw [if_neg (by omega)]
      by_cases c4 : b.toNat ≤ 122
      ·rw [if_neg (by omega), decide_eq_true (by omega)]; rfl
      ·rw [if_pos (by omega), decide_eq_false (by omega)]; rfl
     ·rw [if_pos (by omega), decide_eq_false (by omega)]; rfl
  ·rw [if_neg (by omega), List.drop_of_length_le (by omega)]
   rfl
theorem zIva (s : W) (K : Bool → Option R) : zhfa s K = K (zQoa s) := by
 unfold zhfa zQoa
 simp only [zgaa]
 by_cases h1 : 1 ≤ s.length
 ·rw [if_neg (by omega)]
  by_cases h2 : s.length ≤ 16
  ·rw [if_neg (by omega)]
   obtain ⟨m, hf⟩ := zTca (s.length + 1) (by omega)
   rw [hf]
   refine Eq.trans (zXsa (R := R) (fun w => K w) (K true) s h2 (m + s.length) 0 (by omega) (by omega)) ?_
   rw [List.drop_zero, decide_eq_true h1, decide_eq_true h2]
   cases s.all nameC <;> rfl
  ·rw [if_pos (by omega), decide_eq_false h2]; simp
 ·rw [if_pos (by omega), decide_eq_false h1]; simp
def nameM (a : RS) : W × RS := ((nextM a).1, ((nextM a).2.1, ((nextM a).2.2.1 || !zQoa (nextM a).1, (nextM a).2.2.2)))
theorem zSua (a : RS) (K : W → RS → Option R) : zgba a K = K (nameM a).1 (nameM a).2 := by
 unfold zgba nameM
 rw [zuoa]
 generalize (nextM a).2 = b
 generalize (nextM a).1 = s
 obtain ⟨ws, b, u⟩ := b
 cases b with
 | true => rfl
 | false => simp only [cond_false, zIva, Bool.false_or]
def digB (w : W) : Bool := match w with | [] => false | b :: _ => decide (48 ≤ b.toNat ∧ b.toNat ≤ 57)
def valsM : List W → Bool → Unit → List Int × RS
 | [], b, u => ([], ([], b, u))
 | w :: ws, b, u => match digB w with
  | true => match wv w with
   | some n => ((n : Int) :: (valsM ws b u).1, (valsM ws b u).2)
   | none => (0 :: (valsM ws true u).1, (valsM ws true u).2)
  | false => ([], (w :: ws, b, u))
def zIja (a : RS) : List Int × RS := ((valsM a.1 a.2.1 a.2.2).1, ((valsM a.1 a.2.1 a.2.2).2.1, ((valsM a.1 a.2.1 a.2.2).2.2.1 || decide ((valsM a.1 a.2.1 a.2.2).1.length > 8), (valsM a.1 a.2.1 a.2.2).2.2.2)))
theorem zJta (kx : List Int → RS → Option R) : ∀ (n : Nat) (ws : List W) (b : Bool) (u : Unit) (out : List Int), ws.length ≤ n → small ws → out.length + ws.length ≤ most →
  loopN (zwaa kx) (n + 1) ⟨out, (ws, b, u)⟩ = kx (out ++ (valsM ws b u).1) (valsM ws b u).2 := by
 intro n
 induction n with
 | zero =>
  intro ws b u out h1 h2 h3
  obtain rfl : ws = [] := List.eq_nil_of_length_eq_zero (by omega)
  rw [znaa]
  unfold zwaa
  rw [zxpa]
  simp [valsM]
 | succ n ih =>
  intro ws b u out h1 h2 h3
  rw [znaa]
  generalize loopN (zwaa kx) (n + 1) = rec at ih ⊢
  unfold zwaa
  rw [zxpa]
  cases ws with
  | nil => simp [valsM]
  | cons w ws =>
   have hw := h2 w List.mem_cons_self
   cases w with
   | nil => exact absurd rfl hw.1
   | cons c l =>
    simp only [List.isEmpty_cons, Bool.not_false, cond_true, zOaa, show (0 : Int).toNat = 0 from rfl, List.getD_cons_zero, bt_0, zJqa]
    rw [if_pos (by simp only [List.length_cons]; omega), if_pos (by simp only [List.length_cons]; omega)]
    have hd : decide ((48 : Int) ≤ (c.toNat : Int) ∧ (c.toNat : Int) ≤ 57) = digB (c :: l) := by
     unfold digB
     rw [Bool.eq_iff_iff]; simp only [decide_eq_true_eq]; omega
    rw [hd, zaqa _ h2]
    unfold valsM
    cases digB (c :: l) with
    | false => simp
    | true =>
     simp only [List.length_cons] at h1 h3
     simp only [cond_true, zgaa]
     rw [if_pos (by simp only [List.length_set, List.length_replicate]; omega)]
     have hws : small ws := fun x hx => h2 x (List.mem_cons_of_mem _ hx)
     cases hv : wv (c :: l) with
     | none =>
      have e : ztha ((c :: l) :: ws, b, u) = (0, (ws, true, u)) := by simp only [ztha, nextM, hv]
      rw [e, ih ws true u _ (by omega) hws (by simp only [List.length_append, List.length_set, List.length_replicate]; omega)]
      simp
     | some m =>
      have e : ztha ((c :: l) :: ws, b, u) = ((m : Int), (ws, b, u)) := by simp only [ztha, nextM, hv]
      rw [e, ih ws b u _ (by omega) hws (by simp only [List.length_append, List.length_set, List.length_replicate]; omega)]
      simp
theorem zOqa (a : RS) (h : small a.1) (hl : a.1.length ≤ most) (K : List Int → RS → Option R) : zRaa a K = K (zIja a).1 (zIja a).2 := by
 unfold zRaa zIja
 obtain ⟨ws, b, u⟩ := a
 have hm : most = 4294967296 := rfl
 simp only at hl
 obtain ⟨m, hf⟩ := zTca (ws.length + 1) (by omega)
 rw [hf]
 refine Eq.trans (zJta _ (m + ws.length) ws b u [] (by omega) h (by simpa using hl)) ?_
 simp only [List.nil_append]
 generalize valsM ws b u = q
 obtain ⟨l, ws', b', u'⟩ := q
 cases b' with
 | true => rfl
 | false =>
  simp only [cond_false, Bool.false_or]
  rw [show decide (((l.length : Nat) : Int) > 8) = decide (l.length > 8) by rw [Bool.eq_iff_iff]; simp only [decide_eq_true_eq]; omega]
end
end Go.Trm.G1
namespace Go.Trm.G1
abbrev Ok (a : RS) : Prop := small a.1 ∧ a.1.length ≤ most
abbrev PS (α : Type) := List W → Option (α × List W)
abbrev MS (α : Type) := RS → α × RS
def Sm {α : Type} (f : MS α) : Prop := ∀ a, Ok a → Ok (f a).2
def Rd {α : Type} (f : MS α) (P : PS α) : Prop := (∀ ws u, match P ws with
 | some (x, ws') => f (ws, false, u) = (x, (ws', false, u))
 | none => (f (ws, false, u)).2.2.1 = true) ∧ ∀ ws u, (f (ws, true, u)).2.2.1 = true
def bindM {α β : Type} (f : MS α) (g : α → MS β) : MS β := fun a => g (f a).1 (f a).2
def bindP {α β : Type} (P : PS α) (Q : α → PS β) : PS β := fun ws => match P ws with
 | some (x, ws') => Q x ws'
 | none => none
def retM {α : Type} (x : α) : MS α := fun a => (x, a)
def retP {α : Type} (x : α) : PS α := fun ws => some (x, ws)
theorem Rd.bind {α β : Type} {f : MS α} {P : PS α} {g : α → MS β} {Q : α → PS β} (h : Rd f P) (k : ∀ x, Rd (g x) (Q x)) : Rd (bindM f g) (bindP P Q) := by
 refine ⟨fun ws u => ?_, fun ws u => ?_⟩
 ·have h1 := h.1 ws u
  unfold bindM bindP
  cases hp : P ws with
  | some q =>
   rw [hp] at h1
   obtain ⟨x, ws'⟩ := q
   simp only at h1 ⊢
   rw [h1]
   exact (k x).1 ws' u
  | none =>
   rw [hp] at h1
   simp only at h1 ⊢
   generalize f (ws, false, u) = q at h1
   obtain ⟨x, ws', b, u'⟩ := q
   simp only at h1
   subst h1
   exact (k x).2 ws' u'
 ·have h1 := h.2 ws u
  unfold bindM
  generalize f (ws, true, u) = q at h1
  obtain ⟨x, ws', b, u'⟩ := q
  simp only at h1
  subst h1
  exact (k x).2 ws' u'
theorem Rd.ret {α : Type} (x : α) : Rd (retM x) (retP x) := ⟨fun _ _ => rfl, fun _ _ => rfl⟩
theorem Rd.ite {α : Type} {f g : MS α} {P Q : PS α} (c : Bool) (h : Rd f P) (k : Rd g Q) : Rd (cond c f g) (cond c P Q) := by cases c <;> first | exact h | exact k
theorem Sm.bind {α β : Type} {f : MS α} {g : α → MS β} (h : Sm f) (k : ∀ x, Sm (g x)) : Sm (bindM f g) := fun a ha => k _ _ (h a ha)
theorem Sm.ret {α : Type} (x : α) : Sm (retM x) := fun _ ha => ha
theorem Sm.ite {α : Type} {f g : MS α} (c : Bool) (h : Sm f) (k : Sm g) : Sm (cond c f g) := by cases c <;> first | exact h | exact k
theorem zvpa {w : W} {ws : List W} {b : Bool} {u : Unit} (h : Ok (w :: ws, b, u)) (b' : Bool) : Ok (ws, b', u) := ⟨fun x hx => h.1 x (List.mem_cons_of_mem _ hx), by have := h.2; simp only [List.length_cons] at this ⊢; omega⟩
theorem zSqa {a : RS} (h : Ok a) : Ok (nextM a).2 := by
 obtain ⟨ws, b, u⟩ := a
 cases ws with
 | nil => exact h
 | cons w ws => exact zvpa h b
def wordP {α : Type} (p : W → Option α) : PS α
 | [] => none
 | w :: ws => match p w with
  | some x => some (x, ws)
  | none => none
theorem zqpa {α : Type} {f : MS α} {p : W → Option α} (h0 : p [] = none) (h : ∀ a, match p (nextM a).1 with
  | some x => f a = (x, (nextM a).2)
  | none => (f a).2.2.1 = true) : Rd f (wordP p) := by
 refine ⟨fun ws u => ?_, fun ws u => ?_⟩
 ·have h1 := h (ws, false, u)
  cases ws with
  | nil => simp only [nextM, h0] at h1; exact h1
  | cons w ws =>
   simp only [nextM, wordP] at h1 ⊢
   cases hp : p w with
   | some x => rw [hp] at h1; exact h1
   | none => rw [hp] at h1; exact h1
 ·have h1 := h (ws, true, u)
  cases ws with
  | nil => simp only [nextM, h0] at h1; exact h1
  | cons w ws =>
   simp only [nextM] at h1
   cases hp : p w with
   | some x => rw [hp] at h1; simp only at h1; rw [h1]
   | none => rw [hp] at h1; exact h1
def valT (w : W) : Option Int := (wv w).map fun n => (n : Int)
def numT (w : W) : Option Int := match wv w with
 | some n => if n ≥ 4294967296 then none else some (n : Int)
 | none => none
theorem rd_value : Rd ztha (wordP valT) := zqpa rfl fun a => by
 unfold ztha valT
 cases wv (nextM a).1 <;> rfl
theorem rd_number : Rd zHea (wordP numT) := zqpa rfl fun a => by
 unfold zHea ztha numT
 cases wv (nextM a).1 with
 | none => rfl
 | some n =>
  simp only
  by_cases h : n ≥ 4294967296
  ·rw [if_pos h, if_pos (by omega)]
  ·rw [if_neg h, if_neg (by omega)]
theorem rd_hex : Rd hexM (wordP hexW) := zqpa rfl fun a => by
 unfold hexM
 cases hexW (nextM a).1 <;> rfl
def nameT (w : W) : Option W := if zQoa w then some w else none
theorem rd_name : Rd nameM (wordP nameT) := zqpa rfl fun a => by
 unfold nameM nameT
 cases h : zQoa (nextM a).1 with
 | true =>
  simp only [if_true, Bool.not_true, Bool.or_false]
 | false => simp
theorem sm_value : Sm ztha := fun a ha => by
 have := zSqa ha
 unfold ztha
 split <;> exact this
theorem sm_number : Sm zHea := fun a ha => by
 have := sm_value a ha
 unfold zHea
 split <;> exact this
theorem sm_hex : Sm hexM := fun a ha => by
 have := zSqa ha
 unfold hexM
 split <;> exact this
theorem zUwa : Sm nameM := fun a ha => zSqa ha
def isP (w : W) : PS Bool
 | [] => some (false, [])
 | x :: ws => if x = w then some (true, ws) else some (false, x :: ws)
theorem rd_is (w : W) : Rd (isM w) (isP w) := by
 refine ⟨fun ws u => ?_, fun ws u => ?_⟩
 ·cases ws with
  | nil => rfl
  | cons x ws => unfold isP isM; by_cases h : x = w <;> simp [h]
 ·cases ws with
  | nil => rfl
  | cons x ws => unfold isM; by_cases h : x = w <;> simp [h]
theorem sm_is (w : W) : Sm (isM w) := fun a ha => by
 obtain ⟨ws, b, u⟩ := a
 cases ws with
 | nil => exact ha
 | cons x ws =>
  unfold isM
  by_cases h : x = w
  ·simp only [h, if_true]; exact zvpa ha b
  ·simp only [h, if_false]; exact ha
def valsP : PS (List Int)
 | [] => some ([], [])
 | w :: ws => match digB w with
  | true => match wv w, valsP ws with
   | some n, some (l, r) => some ((n : Int) :: l, r)
   | _, _ => none
  | false => some ([], w :: ws)
def zyga : PS (List Int) := fun ws => match valsP ws with
 | some (l, r) => if l.length > 8 then none else some (l, r)
 | none => none
theorem zbqa : ∀ (ws : List W) (u : Unit), (valsM ws true u).2.2.1 = true
 | [], _ => rfl
 | w :: ws, u => by
  unfold valsM
  split
  ·split <;> exact zbqa ws u
  ·rfl
theorem zCua : ∀ (ws : List W) (u : Unit), match valsP ws with
  | some (x, ws') => valsM ws false u = (x, (ws', false, u))
  | none => (valsM ws false u).2.2.1 = true
 | [], _ => rfl
 | w :: ws, u => by
  have ih := zCua ws u
  unfold valsM valsP
  cases digB w with
  | false => rfl
  | true =>
   simp only
   cases wv w with
   | none => exact zbqa ws u
   | some n =>
    cases hp : valsP ws with
    | none => rw [hp] at ih; exact ih
    | some q => rw [hp] at ih; simp only at ih ⊢; rw [ih]
theorem rd_values : Rd zIja zyga := by
 refine ⟨fun ws u => ?_, fun ws u => ?_⟩
 ·have h := zCua ws u
  unfold zyga zIja
  cases hp : valsP ws with
  | none => rw [hp] at h; simp only at h ⊢; rw [h]; rfl
  | some q =>
   rw [hp] at h
   obtain ⟨l, r⟩ := q
   simp only at h ⊢
   rw [h]
   by_cases hl : l.length > 8 <;> simp [hl]
 ·unfold zIja
  simp only
  rw [zbqa]
  rfl
theorem zssa : ∀ (ws : List W) (b : Bool) (u : Unit), Ok (ws, b, u) → Ok (valsM ws b u).2
 | [], b, u, h => h
 | w :: ws, b, u, h => by
  unfold valsM
  split
  ·split
   ·exact zssa ws b u (zvpa h b)
   ·exact zssa ws true u (zvpa h true)
  ·exact h
theorem sm_values : Sm zIja := fun a ha => zssa a.1 a.2.1 a.2.2 ha
def typeT (w : W) : Option Int := if w = [105, 51, 50] then some 127 else if w = [105, 54, 52] then some 126 else none
def typeM (a : RS) : Int × RS := match typeT (nextM a).1 with
 | some t => (t, (nextM a).2)
 | none => (0, ((nextM a).2.1, (true, (nextM a).2.2.2)))
theorem rd_type : Rd typeM (wordP typeT) := zqpa rfl fun a => by
 unfold typeM
 cases typeT (nextM a).1 <;> rfl
theorem sm_type : Sm typeM := fun a ha => by
 have := zSqa ha
 unfold typeM
 split <;> exact this
section
variable {R : Type}
theorem zPwa (a : RS) (K : Int → RS → Option R) : ziba a K = K (typeM a).1 (typeM a).2 := by
 unfold ziba typeM typeT
 rw [zuoa]
 simp only [zdfa]
 by_cases h1 : (nextM a).1 = [105, 51, 50]
 ·rw [if_pos h1, if_pos h1]
 ·rw [if_neg h1, if_neg h1]
  by_cases h2 : (nextM a).1 = [105, 54, 52]
  ·rw [if_pos h2, if_pos h2]
  ·rw [if_neg h2, if_neg h2]
end
abbrev zNma := (Int) × (Bool) × (Int) × (Int) × (Bool) × (Int) × Unit
abbrev zkpa : W := [116, 97, 98, 108, 101]
abbrev zwna : W := [109, 101, 109, 111, 114, 121]
abbrev maxW : W := [109, 97, 120]
abbrev varW : W := [118, 97, 114]
abbrev growW : W := [103, 114, 111, 119]
abbrev trapW : W := [116, 114, 97, 112]
abbrev giveW : W := [103, 105, 118, 101]
abbrev atW : W := [97, 116]
def sizeM : MS zNma := bindM zHea fun n => bindM (isM maxW) fun m => cond m (bindM zHea fun x => retM (n, (true, (x, (0, (false, (0, ()))))))) (retM (n, (false, (0, (0, (false, (0, ())))))))
def sizeP : PS zNma := bindP (wordP numT) fun n => bindP (isP maxW) fun m => cond m (bindP (wordP numT) fun x => retP (n, (true, (x, (0, (false, (0, ()))))))) (retP (n, (false, (0, (0, (false, (0, ())))))))
def zUra : MS zNma := bindM (isM zkpa) fun t => cond t sizeM (bindM (isM zwna) fun m => cond m sizeM (bindM (isM varW) fun v => bindM typeM fun t => bindM ztha fun n => retM (0, (false, (0, (t, (v, (n, ()))))))))
def zPka : PS zNma := bindP (isP zkpa) fun t => cond t sizeP (bindP (isP zwna) fun m => cond m sizeP (bindP (isP varW) fun v => bindP (wordP typeT) fun t => bindP (wordP valT) fun n => retP (0, (false, (0, (t, (v, (n, ()))))))))
theorem zLua : Rd sizeM sizeP := rd_number.bind fun _ => (rd_is _).bind fun m => .ite m (rd_number.bind fun _ => .ret _) (.ret _)
theorem rd_given : Rd zUra zPka := (rd_is _).bind fun t => .ite t zLua ((rd_is _).bind fun m => .ite m zLua ((rd_is _).bind fun _ => rd_type.bind fun _ => rd_value.bind fun _ => .ret _))
theorem zGua : Sm sizeM := sm_number.bind fun _ => (sm_is _).bind fun m => .ite m (sm_number.bind fun _ => .ret _) (.ret _)
theorem zZxa : Sm zUra := (sm_is _).bind fun t => .ite t zGua ((sm_is _).bind fun m => .ite m zGua ((sm_is _).bind fun _ => sm_type.bind fun _ => sm_value.bind fun _ => .ret _))
abbrev zaba := (Bool) × (Bool) × (List (Int)) × (Int) × (List (Int)) × Unit
def neM (l : List Int) : MS (List Int) := fun a => (l, (a.1, (a.2.1 || l.isEmpty, a.2.2)))
def neP (l : List Int) : PS (List Int) := fun ws => if l = [] then none else some (l, ws)
theorem rd_ne (l : List Int) : Rd (neM l) (neP l) := by
 refine ⟨fun ws u => ?_, fun ws u => rfl⟩
 unfold neP neM
 cases l <;> rfl
theorem sm_ne (l : List Int) : Sm (neM l) := fun a ha => ha
def zfwa (v : Bool) : MS (List Int) := cond v (bindM zIja neM) (retM [])
def zGxa (v : Bool) : PS (List Int) := cond v (bindP zyga neP) (retP [])
def zAoa : MS zaba := bindM (isM growW) fun g => bindM (isM trapW) fun t => bindM (isM giveW) fun v => bindM (zfwa v) fun l => bindM (isM atW) fun k => cond k (bindM zHea fun n => bindM hexM fun h => retM (g, (t, (l, (n, (h, ())))))) (retM (g, (t, (l, (0, ([], ()))))))
def zhma : PS zaba := bindP (isP growW) fun g => bindP (isP trapW) fun t => bindP (isP giveW) fun v => bindP (zGxa v) fun l => bindP (isP atW) fun k => cond k (bindP (wordP numT) fun n => bindP (wordP hexW) fun h => retP (g, (t, (l, (n, (h, ())))))) (retP (g, (t, (l, (0, ([], ()))))))
theorem rd_choice : Rd zAoa zhma := (rd_is _).bind fun _ => (rd_is _).bind fun _ => (rd_is _).bind fun v => (Rd.ite v (rd_values.bind rd_ne) (.ret _)).bind fun _ => (rd_is _).bind fun k => .ite k (rd_number.bind fun _ => rd_hex.bind fun _ => .ret _) (.ret _)
theorem zQxa : Sm zAoa := (sm_is _).bind fun _ => (sm_is _).bind fun _ => (sm_is _).bind fun v => (Sm.ite v (sm_values.bind sm_ne) (.ret _)).bind fun _ => (sm_is _).bind fun k => .ite k (sm_number.bind fun _ => sm_hex.bind fun _ => .ret _) (.ret _)
section
variable {R : Type}
theorem zgwa (a : RS) (h : Ok a) (K : zNma → RS → Option R) : zHba a K = K (zUra a).1 (zUra a).2 := by
 have hs : ∀ (b : RS), Ok b → (zbaa b fun r3 b4 => zeaa b4 maxW fun r5 b6 => cond r5
   (zbaa b6 fun r7 b8 => K (r3, (true, (r7, ((0 : Int), (false, ((0 : Int), ())))))) b8)
   (K (r3, (false, ((0 : Int), ((0 : Int), (false, ((0 : Int), ())))))) b6)) = K (sizeM b).1 (sizeM b).2 := by
  intro b hb
  have h1 := sm_number b hb
  rw [zAha b hb.1]
  have h2 := sm_is maxW _ h1
  rw [is_eq]
  simp only [sizeM, bindM]
  cases hm : (isM maxW (zHea b).2).1 with
  | false => rfl
  | true =>
   simp only [cond_true]
   rw [zAha _ h2.1]
   rfl
 unfold zHba
 rw [is_eq]
 have h1 := sm_is zkpa a h
 simp only [zUra, bindM]
 cases hm : (isM zkpa a).1 with
 | true => simp only [cond_true]; exact hs _ h1
 | false =>
  simp only [cond_false, bindM]
  rw [is_eq]
  have h2 := sm_is zwna _ h1
  cases hm2 : (isM zwna (isM zkpa a).2).1 with
  | true => simp only [cond_true]; exact hs _ h2
  | false =>
   simp only [cond_false, bindM]
   rw [is_eq]
   have h3 := sm_is varW _ h2
   rw [zPwa]
   have h4 := sm_type _ h3
   rw [zaqa _ h4.1]
   rfl
theorem zwua (a : RS) (h : Ok a) (K : zaba → RS → Option R) : zAba a K = K (zAoa a).1 (zAoa a).2 := by
 have hs : ∀ (b : RS) (g t : Bool) (l : List Int), Ok b → (zeaa b atW fun r9 b10 => cond r9
   (zbaa b10 fun r11 b12 => zzaa b12 fun r13 b14 => K (g, (t, (l, (r11, (r13, ()))))) b14)
   (K (g, (t, (l, ((0 : Int), (([] : List (Int)), ()))))) b10)) = K (bindM (isM atW) (fun k => cond k (bindM zHea fun n => bindM hexM fun h => retM (g, (t, (l, (n, (h, ())))))) (retM (g, (t, (l, (0, ([], ()))))))) b).1 (bindM (isM atW) (fun k => cond k (bindM zHea fun n => bindM hexM fun h => retM (g, (t, (l, (n, (h, ())))))) (retM (g, (t, (l, (0, ([], ()))))))) b).2 := by
  intro b g t l hb
  rw [is_eq]
  have h1 := sm_is atW b hb
  simp only [bindM]
  cases hm : (isM atW b).1 with
  | false => rfl
  | true =>
   simp only [cond_true]
   rw [zAha _ h1.1]
   have h2 := sm_number _ h1
   rw [zCxa _ h2.1]
   rfl
 unfold zAba
 rw [is_eq]
 have h1 := sm_is growW a h
 rw [is_eq]
 have h2 := sm_is trapW _ h1
 rw [is_eq]
 have h3 := sm_is giveW _ h2
 unfold zAoa
 rw [bindM, bindM, bindM]
 dsimp only
 rw [bindM]
 cases hm : (isM giveW (isM trapW (isM growW a).2).2).1 with
 | false =>
  simp only [cond_false, zfwa, retM]
  exact hs _ _ _ _ h3
 | true =>
  simp only [cond_true, zfwa]
  rw [zOqa _ h3.1 h3.2]
  have h4 := sm_values _ h3
  simp only [bindM]
  generalize hv : zIja (isM giveW (isM trapW (isM growW a).2).2).2 = q at h4
  obtain ⟨l, ws, b, u⟩ := q
  cases b with
  | true =>
   simp only [cond_true]
   exact hs (ws, true, u) _ _ _ h4
  | false =>
   simp only [cond_false]
   have : (((l.length : Nat) : Int) == 0) = l.isEmpty := by cases l <;> simp <;> omega
   rw [this]
   exact hs (ws, l.isEmpty, u) _ _ _ h4
end
end Go.Trm.G1
namespace Go.Trm.G1
abbrev ActT := (Int) × It3
def Is {α R : Type} (p : (α → Bool → Option R) → Option R) (o : Option α) : Prop := ∀ K, ∃ v b, p K = K v b ∧ o = if b = true then some v else none
def endP {α : Type} : Option (α × List W) → Option α
 | some (x, []) => some x
 | _ => none
abbrev zG : zNma := ((0 : Int), (false, ((0 : Int), ((0 : Int), (false, ((0 : Int), ()))))))
abbrev zC : zaba := (false, (false, (([] : List (Int)), ((0 : Int), (([] : List (Int)), ())))))
abbrev mkA (k : Int) (b : List Int) (g : zNma) (c : zaba) (nm : W) (args : List Int) (fu at_ n : Int) : ActT := (k, (b, (g, (c, (nm, (args, (fu, (at_, (n, ())))))))))
abbrev znka : W := [98, 121, 116, 101, 115]
abbrev zefa : W := [99, 104, 111, 105, 99, 101]
abbrev openW : W := [111, 112, 101, 110]
abbrev callW : W := [99, 97, 108, 108]
abbrev readW : W := [114, 101, 97, 100]
abbrev peekW : W := [112, 101, 101, 107]
def actP (w : W) : PS ActT :=
 if w = znka then bindP (wordP hexW) fun b => retP (mkA 1 b zG zC [] [] 0 0 0)
 else if w = giveW then bindP zPka fun g => retP (mkA 2 [] g zC [] [] 0 0 0)
 else if w = zefa then bindP zhma fun c => retP (mkA 3 [] zG c [] [] 0 0 0)
 else if w = openW then bindP (wordP numT) fun n => retP (mkA 4 [] zG zC [] [] n 0 0)
 else if w = callW then bindP (wordP nameT) fun s => bindP (wordP numT) fun n => bindP zyga fun l => retP (mkA 5 [] zG zC s l n 0 0)
 else if w = readW then bindP (wordP nameT) fun s => retP (mkA 6 [] zG zC s [] 0 0 0)
 else if w = peekW then bindP (wordP numT) fun x => bindP (wordP numT) fun y => retP (mkA 7 [] zG zC [] [] 0 x y)
 else fun _ => none
def actE : List W → Option ActT
 | [] => none
 | w :: ws => endP (actP w ws)
section
variable {R : Type}
theorem zMxa (w2 : RS) (w3 : ActT) (K : ActT → Bool → Option R) :
  both
 (let v4 := !w2.2.1
 cond v4
 (zhaa w2 fun r5 b6 =>
 let v7 := !r5
 K w3 v7)
 (K w3 false))
 (let v8 := !w2.2.1
 cond v8
 (both
 (zhaa w2 fun r9 b10 =>
 let v11 := !r9
 K w3 v11)
 (zhaa w2 fun r12 b13 =>
 let v14 := !r12
 K w3 v14))
 (both
 (K w3 false)
 (K w3 false))) = K w3 (!w2.2.1 && w2.1.isEmpty) := by
 simp only [zxpa, zyua, Bool.not_not]
 cases w2.2.1 <;> rfl
theorem is_of {g : MS ActT} {P : PS ActT} (h : Rd g P) (ws : List W) (p : (ActT → Bool → Option R) → Option R) (hp : ∀ K, p K = K (g (ws, false, ())).1 (!(g (ws, false, ())).2.2.1 && (g (ws, false, ())).2.1.isEmpty)) : Is p (endP (P ws)) := by
 refine fun K => ⟨_, _, hp K, ?_⟩
 have h1 := h.1 ws ()
 cases hq : P ws with
 | none =>
  rw [hq] at h1
  simp only at h1
  rw [h1]
  rfl
 | some q =>
  rw [hq] at h1
  obtain ⟨x, ws'⟩ := q
  simp only at h1
  rw [h1]
  cases ws' <;> rfl
theorem zwya (w : W) (ws : List W) (h : Ok (w :: ws, false, ())) : Is (R := R) (fun K => ziea (w :: ws) K) (actE (w :: ws)) := by
 have hk := zvpa h false
 have key : ∀ K : ActT → Bool → Option R, ziea (w :: ws) K = zxea (fun _ w2 w3 => K w3 (!w2.2.1 && w2.1.isEmpty)) (fun w15 w16 => K w15 w16) ⟨mkA 0 [] zG zC [] [] 0 0 0, ((w :: ws, (false, ())) : RS), mkA 0 [] zG zC [] [] 0 0 0⟩ := by
  intro K
  unfold ziea
  congr 1
  funext w1 w2 w3
  exact zMxa w2 w3 K
 have key2 := key
 unfold zxea at key2
 simp only [zuoa, nextM] at key2
 simp only [zdfa] at key2
 show Is _ (endP (actP w ws))
 unfold actP
 by_cases c1 : w = znka
 ·have d1 : w = ([98, 121, 116, 101, 115] : List UInt8) := c1
  simp only [if_pos c1]
  refine is_of (g := bindM hexM fun b => retM (mkA 1 b zG zC [] [] 0 0 0)) (rd_hex.bind fun _ => .ret _) ws _ fun K => ?_
  rw [key2 K, if_pos d1, zCxa _ hk.1]
  rfl
 have d1 : ¬ w = ([98, 121, 116, 101, 115] : List UInt8) := c1
 simp only [if_neg c1]
 by_cases c2 : w = giveW
 ·have d2 : w = ([103, 105, 118, 101] : List UInt8) := c2
  simp only [if_pos c2]
  refine is_of (g := bindM zUra fun g => retM (mkA 2 [] g zC [] [] 0 0 0)) (rd_given.bind fun _ => .ret _) ws _ fun K => ?_
  rw [key2 K, if_neg d1, if_pos d2, zgwa _ hk]
  rfl
 have d2 : ¬ w = ([103, 105, 118, 101] : List UInt8) := c2
 simp only [if_neg c2]
 by_cases c3 : w = zefa
 ·have d3 : w = ([99, 104, 111, 105, 99, 101] : List UInt8) := c3
  simp only [if_pos c3]
  refine is_of (g := bindM zAoa fun g => retM (mkA 3 [] zG g [] [] 0 0 0)) (rd_choice.bind fun _ => .ret _) ws _ fun K => ?_
  rw [key2 K, if_neg d1, if_neg d2, if_pos d3, zwua _ hk]
  rfl
 have d3 : ¬ w = ([99, 104, 111, 105, 99, 101] : List UInt8) := c3
 simp only [if_neg c3]
 by_cases c4 : w = openW
 ·have d4 : w = ([111, 112, 101, 110] : List UInt8) := c4
  simp only [if_pos c4]
  refine is_of (g := bindM zHea fun g => retM (mkA 4 [] zG zC [] [] g 0 0)) (rd_number.bind fun _ => .ret _) ws _ fun K => ?_
  rw [key2 K, if_neg d1, if_neg d2, if_neg d3, if_pos d4, zAha _ hk.1]
  rfl
 have d4 : ¬ w = ([111, 112, 101, 110] : List UInt8) := c4
 simp only [if_neg c4]
 by_cases c5 : w = callW
 ·have d5 : w = ([99, 97, 108, 108] : List UInt8) := c5
  simp only [if_pos c5]
  refine is_of (g := bindM nameM fun s => bindM zHea fun n => bindM zIja fun l => retM (mkA 5 [] zG zC s l n 0 0)) (rd_name.bind fun _ => rd_number.bind fun _ => rd_values.bind fun _ => .ret _) ws _ fun K => ?_
  have h1 := zUwa _ hk
  have h2 := sm_number _ h1
  rw [key2 K, if_neg d1, if_neg d2, if_neg d3, if_neg d4, if_pos d5, zSua, zAha _ h1.1, zOqa _ h2.1 h2.2]
  rfl
 have d5 : ¬ w = ([99, 97, 108, 108] : List UInt8) := c5
 simp only [if_neg c5]
 by_cases c6 : w = readW
 ·have d6 : w = ([114, 101, 97, 100] : List UInt8) := c6
  simp only [if_pos c6]
  refine is_of (g := bindM nameM fun s => retM (mkA 6 [] zG zC s [] 0 0 0)) (rd_name.bind fun _ => .ret _) ws _ fun K => ?_
  rw [key2 K, if_neg d1, if_neg d2, if_neg d3, if_neg d4, if_neg d5, if_pos d6, zSua]
  rfl
 have d6 : ¬ w = ([114, 101, 97, 100] : List UInt8) := c6
 simp only [if_neg c6]
 by_cases c7 : w = peekW
 ·have d7 : w = ([112, 101, 101, 107] : List UInt8) := c7
  simp only [if_pos c7]
  refine is_of (g := bindM zHea fun x => bindM zHea fun y => retM (mkA 7 [] zG zC [] [] 0 x y)) (rd_number.bind fun _ => rd_number.bind fun _ => .ret _) ws _ fun K => ?_
  have h1 := sm_number _ hk
  rw [key2 K, if_neg d1, if_neg d2, if_neg d3, if_neg d4, if_neg d5, if_neg d6, if_pos d7, zAha _ hk.1, zAha _ h1.1]
  rfl
 have d7 : ¬ w = ([112, 101, 101, 107] : List UInt8) := c7
 simp only [if_neg c7]
 exact fun K => ⟨mkA 0 [] zG zC [] [] 0 0 0, false, (key2 K).trans (by rw [if_neg d1, if_neg d2, if_neg d3, if_neg d4, if_neg d5, if_neg d6, if_neg d7]), rfl⟩
end
end Go.Trm.G1
namespace Go.Trm.G1
theorem zxsa (l : W) (i : Nat) (h : i < l.length) : rng l (i : Int) ((i + 1 : Nat) : Int) = [l.getD i 0] := by
 simp only [rng, Int.toNat_natCast]
 rw [List.take_succ_eq_append_getElem h, List.drop_append_of_le_length (by simp; omega), List.drop_of_length_le (by simp; omega), List.getD_eq_getElem?_getD, List.getElem?_eq_getElem h]
 rfl
section
variable {R : Type}
theorem zisa (kx : List W → Option R) (l : W) (hl : l.length ≤ 2147483648) : ∀ (n i : Nat) (out : List W) (w : W), l.length ≤ i + n → i ≤ l.length → out.length + w.length ≤ i →
  loopN (zEaa kx) (n + 2) ⟨l, out, w, (i : Int)⟩ = kx (out ++ zeba w (l.drop i)) := by
 have hm : most = 4294967296 := rfl
 have hend : ∀ (n i : Nat) (out : List W) (w : W), i = l.length → out.length + w.length ≤ i → loopN (zEaa kx) (n + 2) ⟨l, out, w, (i : Int)⟩ = kx (out ++ zeba w (l.drop i)) := by
  intro n i out w hi h3
  have hstop : ∀ o w', loopN (zEaa kx) (n + 1) ⟨l, o, w', ((i + 1 : Nat) : Int)⟩ = kx o := by
   intro o w'
   rw [znaa]
   unfold zEaa
   simp only [zgaa]
   rw [if_neg (by omega)]
  rw [znaa]
  generalize loopN (zEaa kx) (n + 1) = rec at hstop ⊢
  unfold zEaa
  simp only [zgaa, zOaa, zpha, zoja, zdfa]
  rw [if_pos (by omega), if_neg (by omega), w_i64 (by omega), show (i : Int) + 1 = ((i + 1 : Nat) : Int) by omega, hstop, hstop, List.drop_of_length_le (by omega)]
  unfold zeba
  by_cases hw : w = []
  ·rw [if_pos hw, if_pos hw]; simp
  ·have : 0 < w.length := by cases w <;> simp at hw ⊢
   rw [if_neg hw, if_neg hw, if_pos (by simp only [List.length_set, List.length_replicate]; omega)]; rfl
 intro n
 induction n with
 | zero => intro i out w h1 h2 h3; exact hend 0 i out w (by omega) h3
 | succ n ih =>
  intro i out w h1 h2 h3
  by_cases hi : i < l.length
  case neg => exact hend (n + 1) i out w (by omega) h3
  rw [znaa]
  generalize loopN (zEaa kx) (n + 2) = rec at ih ⊢
  unfold zEaa
  simp only [zgaa, zOaa, zpja, zpha, zoja, zdfa]
  rw [if_pos (by omega), if_pos (by omega), if_pos ⟨by omega, by omega⟩, w_i64 (by omega), show (i : Int) + 1 = ((i + 1 : Nat) : Int) by omega, bt_at, zxsa l i hi]
  rw [zFda l i 0 hi]
  generalize l.getD i 0 = b
  conv => rhs; unfold zeba
  by_cases hb : b = 32
  ·subst hb
   rw [if_pos (by rfl), if_pos rfl]
   by_cases hw : w = []
   ·rw [if_pos hw, if_pos hw]
    rw [ih (i + 1) out [] (by omega) (by omega) (by simp only [List.length_nil]; omega)]
   ·have : 0 < w.length := by cases w <;> simp at hw ⊢
    rw [if_neg hw, if_neg hw, if_pos (by simp only [List.length_set, List.length_replicate]; omega)]
    rw [ih (i + 1) _ [] (by omega) (by omega) (by simp only [List.length_append, List.length_set, List.length_replicate, List.length_nil]; omega)]
    rw [List.append_assoc]; rfl
  ·rw [if_neg (fun hc => hb (UInt8.toNat_inj.1 (by show b.toNat = 32; omega))), if_neg hb, if_pos ⟨by omega, by omega, by omega⟩, if_pos (by simp only [List.length_cons, List.length_nil]; omega)]
   rw [ih (i + 1) out _ (by omega) (by omega) (by simp only [List.length_append, List.length_cons, List.length_nil]; omega)]
theorem ziva (l : W) (hl : l.length ≤ 2147483648) (K : List W → Option R) : zYca l K = K (zeba [] l) := by
 unfold zYca
 obtain ⟨m, hf⟩ := zTca (l.length + 2) (by omega)
 rw [hf]
 have := zisa (R := R) (fun w1 => K w1) l hl (m + l.length) 0 [] [] (by omega) (by omega) (by simp)
 rw [List.drop_zero, List.nil_append] at this
 exact this
theorem zksa (kr : Int → Bool → Option R) (kx : Int → Option R) (s : W) (hs : s.length ≤ most) : ∀ (n i acc : Nat), s.length ≤ i + n → i ≤ s.length → acc ≤ 18446744073709551615 →
  loopN (zbba kr kx) (n + 1) ⟨s, (acc : Int), (i : Int)⟩ = match decF acc (s.drop i) with | some m => kx (m : Int) | none => kr 0 false := by
 have hm : most = 4294967296 := rfl
 intro n
 induction n with
 | zero =>
  intro i acc h1 h2 h3
  rw [znaa]
  unfold zbba
  simp only [zgaa]
  rw [if_neg (by omega), List.drop_of_length_le (by omega)]
  rfl
 | succ n ih =>
  intro i acc h1 h2 h3
  rw [znaa]
  generalize loopN (zbba kr kx) (n + 1) = rec at ih ⊢
  unfold zbba
  simp only [zgaa, zOaa, zpha]
  by_cases hi : i < s.length
  ·rw [if_pos (by omega), if_pos ⟨by omega, by omega⟩, if_pos ⟨by omega, by omega⟩, bt_at, zFda s i 0 hi, zUka]
   have hlt := (s.getD i 0).toNat_lt
   generalize (s.getD i 0).toNat = b at hlt ⊢
   by_cases c1 : 48 ≤ b
   ·rw [if_neg (by omega), if_pos ⟨by omega, by omega⟩]
    by_cases c2 : b ≤ 57
    ·rw [if_neg (by omega), if_neg (by decide), w_u64 (n := (b : Int)) (by omega), w_u64 (n := (b : Int) - 48) (by omega), w_u64 (n := 18446744073709551615 - ((b : Int) - 48)) (by omega)]
     have ht : Int.tdiv (18446744073709551615 - ((b : Int) - 48)) 10 = (18446744073709551615 - ((b : Int) - 48)) / 10 := Int.tdiv_eq_ediv_of_nonneg (by omega)
     rw [ht, w_u64 (n := (18446744073709551615 - ((b : Int) - 48)) / 10) (by omega)]
     by_cases c3 : acc * 10 + (b - 48) ≤ 18446744073709551615
     ·rw [if_neg (by omega), if_pos ⟨c1, c2, c3⟩, w_u64 (n := (acc : Int) * 10) (by omega), w_u64 (n := (acc : Int) * 10 + ((b : Int) - 48)) (by omega), w_i64 (by omega)]
      rw [show (acc : Int) * 10 + ((b : Int) - 48) = ((acc * 10 + (b - 48) : Nat) : Int) by omega, show (i : Int) + 1 = ((i + 1 : Nat) : Int) by omega]
      exact ih (i + 1) _ (by omega) (by omega) c3
     ·rw [if_pos (by omega), if_neg (fun h => c3 h.2.2)]
    ·rw [if_pos (by omega), if_neg (fun h => c2 h.2.1)]
   ·rw [if_pos (by omega), if_neg (fun h => c1 h.1)]
  ·rw [if_neg (by omega), List.drop_of_length_le (by omega)]
   rfl
theorem zZua : ∀ (l : W) (acc n : Nat), decF acc l = some n → acc * 10 ^ l.length ≤ n
 | [], acc, n, h => by simp only [decF, Option.some.injEq] at h; subst h; simp
 | b :: l, acc, n, h => by
  rw [zUka] at h
  split at h
  ·have := zZua l _ n h
   rw [List.length_cons, Nat.pow_succ]
   calc acc * (10 ^ l.length * 10) = (acc * 10) * 10 ^ l.length := by rw [Nat.mul_comm (10 ^ l.length) 10, ← Nat.mul_assoc]
    _ ≤ (acc * 10 + (b.toNat - 48)) * 10 ^ l.length := Nat.mul_le_mul_right _ (by omega)
    _ ≤ n := this
  ·cases h
theorem zDwa {s : W} (h : 20 < s.length) : wv s = none := by
 cases s with
 | nil => rfl
 | cons b l =>
  rw [zpoa]
  split
  ·rfl
  ·rename_i hc
   cases hd : decF 0 (b :: l) with
   | none => rfl
   | some n =>
    exfalso
    have h1 := zvta _ 0 n (by omega) hd
    rw [zUka] at hd
    simp only [List.length_cons] at h
    split at hd
    ·rename_i hb
     have h2 := zZua l _ n hd
     have hb1 : b.toNat ≠ 48 := fun hb' => hc ⟨UInt8.toNat_inj.1 (by rw [hb']; rfl), fun hl => by subst hl; simp at h⟩
     have h3 : 10 ^ 20 ≤ 10 ^ l.length := Nat.pow_le_pow_right (by omega) (by omega)
     have h4 : 1 * 10 ^ l.length ≤ (0 * 10 + (b.toNat - 48)) * 10 ^ l.length := Nat.mul_le_mul_right _ (by omega)
     omega
    ·cases hd
theorem zPma (s : W) (K : Int → Bool → Option R) : zSaa s K = match wv s with | some n => K (n : Int) true | none => K 0 false := by
 cases s with
 | nil => rfl
 | cons b l =>
  unfold zSaa
  simp only [bt_0]
  simp only [zdfa, zgaa, zOaa]
  rw [if_neg (by simp)]
  by_cases h : 20 < (b :: l).length
  ·rw [if_pos (by omega), zDwa h]
  have hm : most = 4294967296 := rfl
  have hv : loopN (zbba (fun w8 w9 => K w8 w9) (fun w10 => K w10 true)) zyfa ⟨b :: l, (0 : Int), (0 : Int)⟩ = match decF 0 (b :: l) with | some n => K (n : Int) true | none => K 0 false := by
   obtain ⟨m, hf⟩ := zTca ((b :: l).length + 1) (by omega)
   rw [hf]
   exact zksa (R := R) (fun w8 w9 => K w8 w9) (fun w10 => K w10 true) (b :: l) (by omega) (m + (b :: l).length) 0 0 (by omega) (by omega) (by omega)
  rw [if_neg (by omega), hv, zpoa]
  by_cases h1 : l = []
  ·subst h1
   rw [if_neg (by simp), if_neg (by simp)]
  ·have hp : 0 < l.length := by cases l <;> simp at h1 ⊢
   simp only [List.length_cons]
   rw [if_pos (by omega), if_pos (by omega)]
   by_cases hb : b = 48
   ·rw [if_pos (by subst hb; rfl), if_pos ⟨hb, h1⟩]
   ·rw [if_neg (fun hc => hb (UInt8.toNat_inj.1 (by show b.toNat = 48; omega))), if_neg (fun hc => hb hc.1)]
theorem zVqa (s : W) : Is (R := R) (fun K => zSaa s K) (valT s) := by
 cases h : wv s with
 | none => exact fun K => ⟨0, false, by show zSaa s K = _; rw [zPma, h], by simp [valT, h]⟩
 | some n => exact fun K => ⟨n, true, by show zSaa s K = _; rw [zPma, h], by simp [valT, h]⟩
theorem znca (s : W) : Is (R := R) (fun K => zaaa s K) (numT s) := by
 unfold zaaa numT
 simp only [zPma]
 cases h : wv s with
 | none => exact fun K => ⟨0, false, rfl, rfl⟩
 | some n =>
  simp only [Bool.not_true, cond_false, zgaa]
  by_cases hn : n ≥ 4294967296
  ·exact fun K => ⟨0, false, if_pos (by omega), by rw [if_pos hn]; rfl⟩
  ·exact fun K => ⟨n, true, (if_neg (by omega)).trans (by rw [w_i64 (by omega)]), by rw [if_neg hn]; rfl⟩
def allV : List W → Option (List Int)
 | [] => some []
 | w :: ws => match wv w, allV ws with
  | some n, some l => some ((n : Int) :: l)
  | _, _ => none
theorem zuwa : ∀ {ws : List W} {l : List Int}, allV ws = some l → l.length = ws.length
 | [], l, h => by simp only [allV, Option.some.injEq] at h; subst h; rfl
 | w :: ws, l, h => by
  unfold allV at h
  split at h
  ·rename_i n l' h1 h2
   simp only [Option.some.injEq] at h
   subst h
   simp [zuwa h2]
  ·cases h
theorem zgqa (kr : List Int → Bool → Option R) (kx : List Int → Option R) (ws : List W) (hs : ws.length ≤ most) : ∀ (n i : Nat) (out : List Int), ws.length ≤ i + n → i ≤ ws.length → out.length ≤ i →
  loopN (zRba kr kx) (n + 1) ⟨ws, out, (i : Int)⟩ = match allV (ws.drop i) with | some l => kx (out ++ l) | none => kr [] false := by
 have hm : most = 4294967296 := rfl
 intro n
 induction n with
 | zero =>
  intro i out h1 h2 h3
  rw [znaa]
  unfold zRba
  simp only [zgaa]
  rw [if_neg (by omega), List.drop_of_length_le (by omega)]
  simp [allV]
 | succ n ih =>
  intro i out h1 h2 h3
  rw [znaa]
  generalize loopN (zRba kr kx) (n + 1) = rec at ih ⊢
  unfold zRba
  simp only [zgaa, zOaa, zPma]
  by_cases hi : i < ws.length
  ·rw [if_pos (by omega), if_pos ⟨by omega, by omega⟩, zFda ws i [] hi, Int.toNat_natCast]
   generalize ws.getD i [] = w
   rw [show allV (w :: ws.drop (i + 1)) = match wv w, allV (ws.drop (i + 1)) with | some n, some l => some ((n : Int) :: l) | _, _ => none from rfl]
   cases wv w with
   | none => rfl
   | some m =>
    simp only [Bool.not_true, cond_false]
    rw [if_pos (by simp only [List.length_set, List.length_replicate]; omega), w_i64 (by omega), show (i : Int) + 1 = ((i + 1 : Nat) : Int) by omega]
    rw [ih (i + 1) _ (by omega) (by omega) (by simp only [List.length_append, List.length_set, List.length_replicate]; omega)]
    cases allV (ws.drop (i + 1)) with
    | none => rfl
    | some l => simp
  ·rw [if_neg (by omega), List.drop_of_length_le (by omega)]
   simp [allV]
def valsE (ws : List W) : Option (List Int) := match allV ws with
 | some l => if l.length > 8 then none else some l
 | none => none
theorem zmpa (ws : List W) (hs : ws.length ≤ most) : Is (R := R) (fun K => zPaa ws K) (valsE ws) := by
 unfold zPaa valsE
 have hm : most = 4294967296 := rfl
 obtain ⟨m, hf⟩ := zTca (ws.length + 1) (by omega)
 rw [hf]
 have h := fun K : List Int → Bool → Option R => zgqa (R := R) (fun w1 w2 => K w1 w2) (fun w3 => K w3 (decide (((List.length w3 : Nat) : Int) ≤ 8))) ws hs (m + ws.length) 0 [] (by omega) (by omega) (by simp)
 simp only [List.drop_zero, List.nil_append] at h
 cases ha : allV ws with
 | none => exact fun K => ⟨[], false, by have := h K; rw [ha] at this; exact this, rfl⟩
 | some l =>
  by_cases hl : l.length > 8
  ·exact fun K => ⟨l, false, by
    have := h K
    rw [ha] at this
    refine this.trans ?_
    simp only
    rw [decide_eq_false (by omega)], by simp [hl]⟩
  ·exact fun K => ⟨l, true, by
    have := h K
    rw [ha] at this
    refine this.trans ?_
    simp only
    rw [decide_eq_true (by omega)], by simp [hl]⟩
theorem zesa {w : W} (h : digB w = false) : wv w = none := by
 cases w with
 | nil => rfl
 | cons b l =>
  cases hv : wv (b :: l) with
  | none => rfl
  | some n =>
   have := zgva hv
   unfold digB at h
   simp only [decide_eq_false_iff_not] at h
   exact absurd this h
theorem zlsa : ∀ ws : List W, endP (valsP ws) = allV ws
 | [] => rfl
 | w :: ws => by
  have ih := zlsa ws
  unfold valsP allV
  cases hd : digB w with
  | false => rw [zesa hd]; rfl
  | true =>
   simp only
   cases wv w with
   | none => rfl
   | some n =>
    rw [← ih]
    cases valsP ws with
    | none => rfl
    | some q => obtain ⟨l, r⟩ := q; cases r <;> rfl
theorem zjsa (ws : List W) : endP (zyga ws) = valsE ws := by
 unfold zyga valsE
 rw [← zlsa]
 cases valsP ws with
 | none => rfl
 | some q =>
  obtain ⟨l, r⟩ := q
  cases r with
  | nil =>
   simp only [endP]
   by_cases h : l.length > 8 <;> simp [h]
  | cons x r =>
   simp only [endP]
   by_cases h : l.length > 8 <;> simp [h]
theorem zVua (b : UInt8) : (∀ n, hexD b = some n → ∀ K : Int → Bool → Option R, zjea (b.toNat : Int) K = K n true) ∧ (hexD b = none → ∃ v, ∀ K : Int → Bool → Option R, zjea (b.toNat : Int) K = K v false) := by
 have hlt := b.toNat_lt
 unfold hexD zjea
 simp only [zgaa]
 generalize b.toNat = x at hlt ⊢
 refine ⟨fun n hn K => ?_, fun hn => ?_⟩
 ·split at hn
  ·rename_i hc
   simp only [Option.some.injEq] at hn
   rw [if_pos (by omega), if_pos (by omega), w_u8 (by omega), ← hn]
   congr 1
   omega
  ·split at hn
   ·rename_i hc
    simp only [Option.some.injEq] at hn
    rw [if_pos (by omega), if_neg (by omega), if_pos (by omega), w_u8 (n := (x : Int) - 97) (by omega), w_u8 (by omega), ← hn, decide_eq_true (by omega)]
    congr 1
    omega
   ·cases hn
 ·split at hn
  ·cases hn
  ·split at hn
   ·cases hn
   ·rename_i h1 h2
    by_cases c1 : 48 ≤ x
    ·by_cases c3 : 97 ≤ x
     ·exact ⟨_, fun K => by rw [if_pos (by omega), if_neg (by omega), if_pos (by omega), decide_eq_false (by omega)]⟩
     ·exact ⟨_, fun K => by rw [if_pos (by omega), if_neg (by omega), if_neg (by omega)]⟩
    ·exact ⟨_, fun K => by rw [if_neg (by omega), if_neg (by omega)]⟩
theorem zTta (kr : List Int → Bool → Option R) (kx : W → List Int → Option R) (s : W) (hs : s.length ≤ most) :
  ∀ (n i : Nat) (out : List Int), s.length ≤ i + n → i ≤ s.length → out.length ≤ i →
   (∃ r, hexs (s.drop i) = some r ∧ loopN (zcba kr kx) (n + 1) ⟨s, out, (i : Int)⟩ = kx s (out ++ r)) ∨ (hexs (s.drop i) = none ∧ (loopN (zcba kr kx) (n + 1) ⟨s, out, (i : Int)⟩ = kr [] false ∨ ((s.length - i) % 2 = 1 ∧ ∃ o, loopN (zcba kr kx) (n + 1) ⟨s, out, (i : Int)⟩ = kx s o))) := by
 have hm : most = 4294967296 := rfl
 intro n
 induction n with
 | zero =>
  intro i out h1 h2 h3
  left
  rw [znaa]
  unfold zcba
  simp only [zgaa]
  rw [w_i64 (by omega), if_neg (by omega), List.drop_of_length_le (by omega)]
  exact ⟨[], rfl, by simp⟩
 | succ n ih =>
  intro i out h1 h2 h3
  rw [znaa]
  generalize hrec : loopN (zcba kr kx) (n + 1) = rec at ih ⊢
  unfold zcba
  simp only [zgaa, zOaa]
  rw [w_i64 (n := (i : Int) + 1) (by omega)]
  by_cases hi : i + 1 < s.length
  ·have e2 : (0 : Int) ≤ (i : Int) + 1 ∧ (i : Int) + 1 < ((s.length : Nat) : Int) := ⟨by omega, by omega⟩
   have e3 : bt s ((i : Int) + 1) = ((s.getD (i + 1) 0).toNat : Int) := by rw [show (i : Int) + 1 = ((i + 1 : Nat) : Int) by omega, bt_at]
   rw [if_pos (by omega), if_pos ⟨by omega, by omega⟩]
   simp only [if_pos e2, e3, bt_at]
   rw [zFda s i 0 (by omega), zFda s (i + 1) 0 hi, zVma]
   generalize s.getD i 0 = a, s.getD (i + 1) 0 = b
   obtain ⟨a1, a2⟩ := zVua (R := R) a
   obtain ⟨b1, b2⟩ := zVua (R := R) b
   cases ha : hexD a with
   | none =>
    obtain ⟨v, hv⟩ := a2 ha
    rw [hv]
    cases hb : hexD b with
    | none => obtain ⟨v', hv'⟩ := b2 hb; rw [hv']; exact .inr ⟨rfl, .inl rfl⟩
    | some y => rw [b1 y hb]; exact .inr ⟨rfl, .inl rfl⟩
   | some x =>
    rw [a1 x ha]
    have hx := zqra ha
    cases hb : hexD b with
    | none => obtain ⟨v', hv'⟩ := b2 hb; rw [hv']; exact .inr ⟨rfl, .inl rfl⟩
    | some y =>
     rw [b1 y hb]
     have hy := zqra hb
     simp only [Bool.not_true, cond_false]
     rw [w_u8 (n := (16 : Int) * (x : Int)) (by omega), w_u8 (n := (16 : Int) * (x : Int) + (y : Int)) (by omega), if_pos (by simp only [List.length_set, List.length_replicate]; omega), w_i64 (by omega), show (i : Int) + 2 = ((i + 2 : Nat) : Int) by omega]
     have := ih (i + 2) (out ++ List.set (List.replicate 1 (0 : Int)) 0 ((16 : Int) * (x : Int) + (y : Int))) (by omega) (by omega) (by simp only [List.length_append, List.length_set, List.length_replicate]; omega)
     rcases this with ⟨r, e1, e2⟩ | ⟨e1, e2⟩
     ·rw [e1]
      left
      refine ⟨_, rfl, e2.trans ?_⟩
      rw [List.append_assoc]
      rw [show ((16 * x + y : Nat) : Int) = (16 : Int) * (x : Int) + (y : Int) by omega]
      rfl
     ·rw [e1]
      right
      refine ⟨rfl, ?_⟩
      rcases e2 with e2 | ⟨e2, e3⟩
      ·exact .inl e2
      ·exact .inr ⟨by omega, e3⟩
  ·rw [if_neg (by omega)]
   rcases Nat.lt_or_ge i s.length with h | h
   ·right
    rw [zFda s i 0 h, List.drop_of_length_le (by omega)]
    exact ⟨rfl, .inr ⟨by omega, out, rfl⟩⟩
   ·left
    rw [List.drop_of_length_le h]
    exact ⟨[], rfl, by simp⟩
end
end Go.Trm.G1
namespace Go.Trm.G1
section
variable {R : Type}
theorem zbra (s : W) (hs : s.length ≤ most) : Is (R := R) (fun K => zBba s K) (hexW s) := by
 have hm : most = 4294967296 := rfl
 obtain ⟨m, hf⟩ := zTca (s.length + 1) (by omega)
 have hx : ∀ (o : List Int) (K : List Int → Bool → Option R), (let v5 := ((List.length s : Nat) : Int)
 let v6 := decide (v5 > (0 : Int))
 cond v6
 (let v7 := ((List.length s : Nat) : Int)
 cond ((2 : Int) != 0)
 (let v8 := Int.tmod v7 (2 : Int)
 let v9 := v8 == (0 : Int)
 K o v9) none)
 (K o false)) = K o (decide (0 < s.length ∧ s.length % 2 = 0)) := by
  intro o K
  simp only [zgaa, zpha]
  by_cases h : 0 < s.length
  ·rw [if_pos (by omega), if_neg (by decide)]
   have ht : Int.tmod ((s.length : Nat) : Int) 2 = ((s.length % 2 : Nat) : Int) := rfl
   rw [ht]
   congr 1
   rw [Bool.eq_iff_iff]
   simp only [beq_iff_eq, decide_eq_true_eq]
   omega
  ·rw [if_neg (by omega), decide_eq_false (fun hc => h hc.1)]
 have hl := fun K : List Int → Bool → Option R => zTta (R := R) (fun w1 w2 => K w1 w2) (fun w3 w4 =>
 let v5 := ((List.length w3 : Nat) : Int)
 let v6 := decide (v5 > (0 : Int))
 cond v6
 (let v7 := ((List.length w3 : Nat) : Int)
 cond ((2 : Int) != 0)
 (let v8 := Int.tmod v7 (2 : Int)
 let v9 := v8 == (0 : Int)
 K w4 v9) none)
 (K w4 false)) s hs (m + s.length) 0 [] (by omega) (by omega) (by simp)
 simp only [List.drop_zero, List.nil_append] at hl
 intro K
 show ∃ v b, zBba s K = K v b ∧ _
 unfold zBba
 rw [hf]
 unfold hexW
 have hp : s ≠ [] → 0 < s.length := fun h0 => by cases s <;> simp at h0 ⊢
 rcases hl K with ⟨r, e1, e2⟩ | ⟨e1, e2⟩
 ·refine ⟨_, _, Eq.trans e2 (hx r K), ?_⟩
  by_cases h0 : s = []
  ·subst h0; rfl
  ·have hev : s.length % 2 = 0 := by
    by_cases h2 : s.length % 2 = 0
    ·exact h2
    ·rw [zjta _ s (Nat.le_refl _) h2] at e1; cases e1
   rw [if_neg h0, e1, decide_eq_true ⟨hp h0, hev⟩]; rfl
 ·rcases e2 with e2 | ⟨e3, o, e2⟩
  ·refine ⟨_, _, e2, ?_⟩
   by_cases h0 : s = []
   ·subst h0; cases e1
   ·rw [if_neg h0, e1]; rfl
  ·refine ⟨_, _, Eq.trans e2 (hx o K), ?_⟩
   by_cases h0 : s = []
   ·subst h0; cases e1
   ·rw [if_neg h0, e1, decide_eq_false (fun hc => by omega)]; rfl
theorem zMra (kr : Bool → Option R) (kx : W → Option R) (s : W) (hs : s.length ≤ most) :
  ∀ (n i : Nat), s.length ≤ i + n → i ≤ s.length → loopN (zhca kr kx) (n + 1) ⟨s, (i : Int)⟩ = cond ((s.drop i).all nameC) (kx s) (kr false) := by
 have hm : most = 4294967296 := rfl
 intro n
 induction n with
 | zero =>
  intro i h1 h2
  rw [znaa]
  unfold zhca
  simp only [zgaa]
  rw [if_neg (by omega), List.drop_of_length_le (by omega)]
  rfl
 | succ n ih =>
  intro i h1 h2
  rw [znaa]
  generalize loopN (zhca kr kx) (n + 1) = rec at ih ⊢
  unfold zhca
  by_cases hi : i < s.length
  ·simp only [bt_at]
   simp only [zgaa, zOaa, zoja, zdfa, Bool.not_true, Bool.not_false, cond_true, cond_false]
   rw [if_pos (by omega), if_pos ⟨by omega, by omega⟩, w_i64 (by omega), show (i : Int) + 1 = ((i + 1 : Nat) : Int) by omega, ih (i + 1) (by omega) (by omega), zFda s i 0 hi]
   generalize s.getD i 0 = b
   rw [List.all_cons]
   have e : nameC b = decide ((48 ≤ b.toNat ∧ b.toNat ≤ 57) ∨ b.toNat = 95 ∨ (97 ≤ b.toNat ∧ b.toNat ≤ 122)) := by
    unfold nameC
    rw [Bool.eq_iff_iff]
    simp only [Bool.or_eq_true, Bool.and_eq_true, decide_eq_true_eq, beq_iff_eq]
    omega
   rw [e]
   generalize List.all (s.drop (i + 1)) nameC = z
   generalize b.toNat = x
   by_cases c1 : x = 95
   ·rw [if_pos (by omega), decide_eq_true (by omega)]; rfl
   rw [if_neg (by omega)]
   by_cases c2 : 97 ≤ x
   ·rw [if_pos (by omega)]
    by_cases c3 : x ≤ 122
    ·rw [if_pos (by omega), decide_eq_true (by omega)]; rfl
    ·rw [if_neg (by omega), if_pos (by omega), if_neg (by omega), decide_eq_false (by omega)]; rfl
   ·rw [if_neg (by omega)]
    by_cases c3 : 48 ≤ x
    ·rw [if_pos (by omega)]
     by_cases c4 : x ≤ 57
     ·rw [if_pos (by omega), decide_eq_true (by omega)]; rfl
     ·rw [if_neg (by omega), decide_eq_false (by omega)]; rfl
    ·rw [if_neg (by omega), decide_eq_false (by omega)]; rfl
  ·simp only [zgaa]
   rw [if_neg (by omega), List.drop_of_length_le (by omega)]
   rfl
theorem zara (s : W) (hs : s.length ≤ most) (K : Bool → Option R) : zlaa s K = K (zQoa s) := by
 have hm : most = 4294967296 := rfl
 unfold zlaa zQoa
 obtain ⟨m, hf⟩ := zTca (s.length + 1) (by omega)
 rw [hf]
 refine Eq.trans (zMra (R := R) (fun w => K w) _ s hs (m + s.length) 0 (by omega) (by omega)) ?_
 rw [List.drop_zero]
 cases s.all nameC with
 | false => simp
 | true =>
  simp only [cond_true, zgaa, Bool.and_true]
  by_cases h1 : 1 ≤ s.length
  ·rw [if_pos (by omega), decide_eq_true h1, Bool.true_and]
   congr 1
   rw [Bool.eq_iff_iff]; simp only [decide_eq_true_eq]; omega
  ·rw [if_neg (by omega), decide_eq_false h1, Bool.false_and]
end
end Go.Trm.G1
namespace Go.Trm.G1
def sizeE : List W → Option zNma
 | [x] => (numT x).map fun n => (n, (false, (0, (0, (false, (0, ()))))))
 | [x, m, y] => if m = maxW then (match numT x, numT y with
  | some n, some k => some (n, (true, (k, (0, (false, (0, ()))))))
  | _, _ => none) else none
 | _ => none
theorem zFaa {α : Type} (p : W → Option α) (w : W) (ws : List W) : wordP p (w :: ws) = match p w with
  | some x => some (x, ws)
  | none => none := rfl
theorem zusa (r : List W) : endP (sizeP r) = sizeE r := by
 match r with
 | [] => rfl
 | [x] =>
  simp only [sizeP, bindP, wordP, sizeE, isP, retP]
  cases numT x <;> rfl
 | x :: m :: r =>
  have e : sizeP (x :: m :: r) = match numT x with
   | some n => (if m = maxW then (match wordP numT r with
    | some (k, r') => some ((n, (true, (k, (0, (false, (0, ())))))), r')
    | none => none) else some ((n, (false, (0, (0, (false, (0, ())))))), m :: r))
   | none => none := by
   simp only [sizeP, bindP]
   rw [zFaa]
   cases numT x with
   | none => rfl
   | some n =>
    simp only [isP]
    by_cases h : m = maxW
    ·simp only [if_pos h, cond_true, bindP]; cases wordP numT r <;> rfl
    ·simp only [if_neg h, cond_false]; rfl
  rw [e]
  match r with
  | [] =>
   simp only [sizeE]
   cases numT x with
   | none => rfl
   | some n => by_cases h : m = maxW <;> simp [h, endP, wordP]
  | [y] =>
   simp only [sizeE, wordP]
   cases numT x with
   | none => by_cases h : m = maxW <;> simp [h, endP]
   | some n => by_cases h : m = maxW <;> cases numT y <;> simp [h, endP]
  | y :: z :: r =>
   simp only [sizeE, wordP]
   cases numT x with
   | none => rfl
   | some n => by_cases h : m = maxW <;> cases numT y <;> simp [h, endP]
def varE (v : Bool) : List W → Option zNma
 | [t, n] => match typeT t, valT n with
  | some t, some n => some (0, (false, (0, (t, (v, (n, ()))))))
  | _, _ => none
 | _ => none
def varP (v : Bool) : PS zNma := bindP (wordP typeT) fun t => bindP (wordP valT) fun n => retP (0, (false, (0, (t, (v, (n, ()))))))
theorem zBua (v : Bool) (r : List W) : endP (varP v r) = varE v r := by
 match r with
 | [] => rfl
 | [t] =>
  simp only [varP, bindP, wordP, varE]
  cases typeT t <;> rfl
 | [t, n] =>
  simp only [varP, bindP, wordP, varE]
  cases typeT t with
  | none => rfl
  | some t => cases hn : valT n <;> simp [wordP, hn, retP, endP]
 | t :: n :: x :: r =>
  simp only [varP, bindP, varE]
  rw [zFaa]
  cases typeT t with
  | none => rfl
  | some t =>
   simp only
   rw [zFaa]
   cases valT n <;> rfl
theorem zrua (a : W) (r : List W) : endP (zPka (a :: r)) = if a = zkpa ∨ a = zwna then sizeE r else if a = varW then varE true r else varE false (a :: r) := by
 by_cases h1 : a = zkpa
 ·rw [if_pos (.inl h1)]
  have : zPka (a :: r) = sizeP r := by simp only [zPka, bindP, isP, if_pos h1]; rfl
  rw [this, zusa]
 by_cases h2 : a = zwna
 ·rw [if_pos (.inr h2)]
  have : zPka (a :: r) = sizeP r := by simp only [zPka, bindP, isP, if_neg h1, cond_false, if_pos h2]; rfl
  rw [this, zusa]
 rw [if_neg (fun h => h.elim h1 h2)]
 by_cases h3 : a = varW
 ·rw [if_pos h3]
  have : zPka (a :: r) = varP true r := by simp only [zPka, bindP, isP, if_neg h1, cond_false, if_neg h2, if_pos h3]; rfl
  rw [this, zBua]
 ·rw [if_neg h3]
  have : zPka (a :: r) = varP false (a :: r) := by simp only [zPka, bindP, isP, if_neg h1, cond_false, if_neg h2, if_neg h3]; rfl
  rw [this, zBua]
section
variable {R : Type}
abbrev gv (v : Bool) : zNma := ((0 : Int), (false, ((0 : Int), ((0 : Int), (v, ((0 : Int), ()))))))
noncomputable abbrev T17 (r : List W) (v : Bool) (K : zNma → Bool → Option R) : Option R :=
 ztca (fun w9 w10 =>
 K w9 w10) (fun w11 w12 w13 =>
 zQda (fun w14 w15 w16 =>
 cond (inB (1 : Int) (List.length w14))
 (let v17 := List.getD w14 (1 : Int).toNat ([] : List UInt8)
 zSaa v17 fun r18 r19 =>
 K (w16.1, (w16.2.1, (w16.2.2.1, (w16.2.2.2.1, (w16.2.2.2.2.1, (r18, w16.2.2.2.2.2.2)))))) r19) none) ⟨w11, w12, (w13.1, (w13.2.1, (w13.2.2.1, ((127 : Int), w13.2.2.2.2))))⟩) ⟨r, zG, gv v⟩
theorem zRwa (r : List W) (v : Bool) : Is (R := R) (fun K => T17 r v K) (varE v r) := by
 intro K
 show ∃ v' b, T17 r v K = K v' b ∧ _
 match r with
 | [] => exact ⟨_, false, rfl, rfl⟩
 | [_] => exact ⟨_, false, rfl, rfl⟩
 | [t, n] =>
  by_cases h1 : t = [105, 51, 50]
  ·subst h1
   obtain ⟨x, b, e1, e2⟩ := zVqa (R := R) n (fun r18 r19 => K (0, (false, (0, (127, (v, (r18, ())))))) r19)
   refine ⟨_, b, e1, ?_⟩
   simp only [varE, e2]
   cases b <;> rfl
  by_cases h2 : t = [105, 54, 52]
  ·subst h2
   obtain ⟨x, b, e1, e2⟩ := zVqa (R := R) n (fun r18 r19 => K (0, (false, (0, (126, (v, (r18, ())))))) r19)
   refine ⟨_, b, e1, ?_⟩
   simp only [varE, e2]
   cases b <;> rfl
  ·refine ⟨gv v, false, ?_, ?_⟩
   ·have f1 : (t == ([105, 51, 50] : List UInt8)) = false := by simpa using h1
    have f2 : (t == ([105, 54, 52] : List UInt8)) = false := by simpa using h2
    show (cond (!(t == ([105, 51, 50] : List UInt8))) (cond (!(t == ([105, 54, 52] : List UInt8))) (K (gv v) false) _) _) = _
    rw [f1, f2]; rfl
   ·simp only [varE, typeT, if_neg h1, if_neg h2]; rfl
 | t :: n :: x :: r =>
  refine ⟨gv v, false, ?_, rfl⟩
  unfold T17 ztca
  simp only [zpha]
  rw [if_neg (by simp only [List.length_cons]; omega)]
theorem zUta (ws : List W) : Is (R := R) (fun K => zYaa ws K) (endP (zPka ws)) := by
 intro K
 show ∃ v' b, zYaa ws K = K v' b ∧ _
 cases ws with
 | nil => exact ⟨_, false, rfl, rfl⟩
 | cons a r =>
 rw [zrua]
 by_cases h : a = zkpa ∨ a = zwna
 ·rw [if_pos h]
  match r with
  | [] => rcases h with rfl | rfl <;> exact ⟨_, false, rfl, rfl⟩
  | [x] =>
   obtain ⟨y, b, e1, e2⟩ := znca (R := R) x (fun r6 r7 => K (r6, zG.2) r7)
   refine ⟨(y, zG.2), b, ?_, ?_⟩
   ·rcases h with rfl | rfl <;> exact e1
   ·simp only [sizeE, e2]
    cases b <;> rfl
  | [x, m] =>
   obtain ⟨y, b, e1, e2⟩ := znca (R := R) x (fun r6 _ => K (r6, zG.2) false)
   refine ⟨(y, zG.2), false, ?_, rfl⟩
   rcases h with rfl | rfl <;> exact e1
  | [x, m, y] =>
   by_cases hm : m = maxW
   ·subst hm
    obtain ⟨n, b, e1, e2⟩ := znca (R := R) x (fun r6 r7 => zaaa y fun r17 r18 => cond r7 (K (r6, (true, (r17, zG.2.2.2))) r18) (K (r6, (true, (r17, zG.2.2.2))) false))
    obtain ⟨k, c, e3, e4⟩ := znca (R := R) y (fun r17 r18 => cond b (K (n, (true, (r17, zG.2.2.2))) r18) (K (n, (true, (r17, zG.2.2.2))) false))
    refine ⟨(n, (true, (k, zG.2.2.2))), b && c, ?_, ?_⟩
    ·have : zYaa (a :: [x, maxW, y]) K = zaaa x (fun r6 r7 => zaaa y fun r17 r18 => cond r7 (K (r6, (true, (r17, zG.2.2.2))) r18) (K (r6, (true, (r17, zG.2.2.2))) false)) := by rcases h with rfl | rfl <;> rfl
     refine this.trans (e1.trans (e3.trans ?_))
     cases b <;> rfl
    ·simp only [sizeE, if_true, e2, e4]
     cases b <;> cases c <;> rfl
   ·have f : (m == ([109, 97, 120] : List UInt8)) = false := by simpa using hm
    obtain ⟨n, b, e1, e2⟩ := znca (R := R) x (fun r6 _ => K (r6, zG.2) false)
    refine ⟨(n, zG.2), false, ?_, by simp only [sizeE, if_neg hm]; rfl⟩
    ·have e0 : zYaa (a :: [x, m, y]) K = zaaa x (fun r6 r7 => cond (!(m == ([109, 97, 120] : List UInt8))) (K (r6, zG.2) false) (zaaa y fun r17 r18 => cond r7 (K (r6, (true, (r17, zG.2.2.2))) r18) (K (r6, (true, (r17, zG.2.2.2))) false))) := by rcases h with rfl | rfl <;> rfl
     rw [e0, f]
     exact e1
  | x :: m :: y :: z :: r =>
   obtain ⟨n, b, e1, e2⟩ := znca (R := R) x (fun r6 _ => K (r6, zG.2) false)
   refine ⟨(n, zG.2), false, ?_, rfl⟩
   refine Eq.trans ?_ e1
   unfold zYaa zSda zyea
   have l2 : decide (((List.length (a :: x :: m :: y :: z :: r) : Nat) : Int) ≥ 2) = true := by simp only [List.length_cons, decide_eq_true_eq]; omega
   have l0 : inB (0 : Int) (List.length (a :: x :: m :: y :: z :: r)) = true := by unfold inB; simp only [List.length_cons, Bool.and_eq_true, decide_eq_true_eq]; omega
   have l1 : inB (1 : Int) (List.length (a :: x :: m :: y :: z :: r)) = true := by unfold inB; simp only [List.length_cons, Bool.and_eq_true, decide_eq_true_eq]; omega
   have l3 : (((List.length (a :: x :: m :: y :: z :: r) : Nat) : Int) == 2) = false := by simp only [List.length_cons, beq_eq_false_iff_ne]; omega
   have l4 : (((List.length (a :: x :: m :: y :: z :: r) : Nat) : Int) != 4) = true := by simp only [List.length_cons, bne_iff_ne]; omega
   simp only [l2, l0, l1, l3, l4, cond_true, cond_false]
   rcases h with rfl | rfl <;> rfl
 ·rw [if_neg h]
  have h1 : (a == ([116, 97, 98, 108, 101] : List UInt8)) = false := by simpa using fun hc => h (.inl hc)
  have h2 : (a == ([109, 101, 109, 111, 114, 121] : List UInt8)) = false := by simpa using fun hc => h (.inr hc)
  have l0 : inB (0 : Int) (List.length (a :: r)) = true := by unfold inB; simp only [List.length_cons, Bool.and_eq_true, decide_eq_true_eq]; omega
  have l1 : decide (((List.length (a :: r) : Nat) : Int) > 0) = true := by simp only [List.length_cons, decide_eq_true_eq]; omega
  have e0 : zYaa (a :: r) K = zRda (fun w6 w7 w8 =>
 ztca (fun w9 w10 =>
 K w9 w10) (fun w11 w12 w13 =>
 zQda (fun w14 w15 w16 =>
 cond (inB (1 : Int) (List.length w14))
 (let v17 := List.getD w14 (1 : Int).toNat ([] : List UInt8)
 zSaa v17 fun r18 r19 =>
 K (w16.1, (w16.2.1, (w16.2.2.1, (w16.2.2.2.1, (w16.2.2.2.2.1, (r18, w16.2.2.2.2.2.2)))))) r19) none) ⟨w11, w12, (w13.1, (w13.2.1, (w13.2.2.1, ((127 : Int), w13.2.2.2.2))))⟩) ⟨w6, w7, w8⟩) ⟨a :: r, zG, zG⟩ := by
   unfold zYaa zSda
   simp only [l0, cond_true, show (0 : Int).toNat = 0 from rfl, List.getD_cons_zero, h1, h2, cond_false]
   cases decide (((List.length (a :: r) : Nat) : Int) ≥ 2) <;> rfl
  rw [e0]
  unfold zRda
  simp only [l1, l0, cond_true, show (0 : Int).toNat = 0 from rfl, List.getD_cons_zero]
  by_cases h3 : a = varW
  ·rw [if_pos h3, h3]
   rw [show (varW == ([118, 97, 114] : List UInt8)) = true from rfl, cond_true, show inR (1 : Int) ((List.length (varW :: r) : Nat) : Int) (List.length (varW :: r)) = true by unfold inR; simp only [List.length_cons, Bool.and_eq_true, decide_eq_true_eq]; omega, cond_true, zola]
   exact zRwa r true K
  ·rw [if_neg h3, show (a == ([118, 97, 114] : List UInt8)) = false by simpa using h3, cond_false]
   exact zRwa (a :: r) false K
end
end Go.Trm.G1
