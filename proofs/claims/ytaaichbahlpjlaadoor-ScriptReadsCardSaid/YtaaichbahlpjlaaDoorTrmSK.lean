import Derived.Test.YtaaichbahlpjlaaDoorTrmSG
set_option linter.unusedVariables false
set_option linter.unusedSimpArgs false
namespace Go.Trm.G1
def restP (g t : Bool) (l : List Int) : PS zYaa := bindP (isP atW) fun k => cond k (bindP (wordP numT) fun n => bindP (wordP hexW) fun h => retP (g, (t, (l, (n, (h, ())))))) (retP (g, (t, (l, (0, ([], ()))))))
def restE (g t : Bool) (l : List Int) : List W → Option zYaa
 | [] => some (g, (t, (l, (0, ([], ())))))
 | [a, n, h] => if a = atW then (match numT n, hexW h with
  | some n, some h => some (g, (t, (l, (n, (h, ())))))
  | _, _ => none) else none
 | _ => none
theorem zdsa (g t : Bool) (l : List Int) {a : W} (r : List W) (h : a ≠ atW) : restE g t l (a :: r) = none := by
 match r with
 | [] => rfl
 | [_] => rfl
 | [n, x] => simp only [restE, if_neg h]
 | _ :: _ :: _ :: _ => rfl
theorem zcqa (g t : Bool) (l : List Int) (r : List W) : endP (restP g t l r) = restE g t l r := by
 match r with
 | [] => rfl
 | a :: r =>
  by_cases h : a = atW
  ·have e : restP g t l (a :: r) = match wordP numT r with
    | some (n, r') => (match wordP hexW r' with
     | some (h, r'') => some ((g, (t, (l, (n, (h, ()))))), r'')
     | none => none)
    | none => none := by
    simp only [restP, bindP, isP, if_pos h, cond_true]
    cases wordP numT r with
    | none => rfl
    | some q => obtain ⟨n, r'⟩ := q; simp only; cases wordP hexW r' <;> rfl
   rw [e]
   match r with
   | [] => rfl
   | [n] => rw [zEaa]; cases numT n <;> rfl
   | [n, x] =>
    rw [zEaa]
    simp only [restE, if_pos h]
    cases numT n with
    | none => rfl
    | some n => simp only; rw [zEaa]; cases hexW x <;> rfl
   | n :: x :: y :: r =>
    rw [zEaa]
    cases numT n with
    | none => rfl
    | some n => simp only; rw [zEaa]; cases hexW x <;> rfl
  ·rw [zdsa g t l r h]
   simp only [restP, bindP, isP, if_neg h, cond_false]
   rfl
abbrev nAt (w : W) : Bool := !(w == atW)
theorem zUva : digB atW = false := rfl
theorem zhua : ∀ ws : List W, match valsP ws with
  | some (l, r) => ((r = [] ∨ ∃ r', r = atW :: r') → allV (ws.takeWhile nAt) = some l ∧ ws.dropWhile nAt = r) ∧ ((∃ x r', r = x :: r' ∧ x ≠ atW) → allV (ws.takeWhile nAt) = none)
  | none => allV (ws.takeWhile nAt) = none
 | [] => ⟨fun _ => ⟨rfl, rfl⟩, fun ⟨x, r', h, _⟩ => by cases h⟩
 | w :: ws => by
  have ih := zhua ws
  unfold valsP
  cases hd : digB w with
  | false =>
   simp only
   by_cases ha : w = atW
   ·subst ha
    exact ⟨fun _ => ⟨rfl, rfl⟩, fun ⟨x, r', h, hx⟩ => by cases h; exact absurd rfl hx⟩
   ·have hn : nAt w = true := by simpa [nAt] using ha
    refine ⟨fun hr => ?_, fun _ => ?_⟩
    ·rcases hr with hr | ⟨r', hr⟩
     ·cases hr
     ·cases hr; exact absurd rfl ha
    ·rw [List.takeWhile_cons, hn]
     simp only [if_true, allV, zKra hd]
  | true =>
   have ha : w ≠ atW := fun hc => by rw [hc, zUva] at hd; cases hd
   have hn : nAt w = true := by simpa [nAt] using ha
   have e1 : (w :: ws).takeWhile nAt = w :: ws.takeWhile nAt := by rw [List.takeWhile_cons, hn]; rfl
   have e2 : (w :: ws).dropWhile nAt = ws.dropWhile nAt := by rw [List.dropWhile_cons, hn]; rfl
   rw [e1, e2]
   simp only [allV]
   cases hw : wv w with
   | none => rfl
   | some n =>
    cases hv : valsP ws with
    | none =>
     rw [hv] at ih
     simp only at ih ⊢
     rw [ih]
    | some q =>
     rw [hv] at ih
     obtain ⟨l, r⟩ := q
     simp only at ih ⊢
     refine ⟨fun hr => ?_, fun hr => ?_⟩
     ·obtain ⟨i1, i2⟩ := ih.1 hr
      rw [i1]
      exact ⟨rfl, i2⟩
     ·rw [ih.2 hr]
def giveE (g t : Bool) (ws : List W) : Option zYaa := match valsE (ws.takeWhile nAt) with
 | some l => if l = [] then none else restE g t l (ws.dropWhile nAt)
 | none => none
theorem zKva (g t : Bool) (ws : List W) : endP (bindP (bindP zwga neP) (fun l => restP g t l) ws) = giveE g t ws := by
 have h := zhua ws
 unfold giveE valsE
 simp only [bindP, zwga]
 cases hv : valsP ws with
 | none =>
  rw [hv] at h
  simp only at h ⊢
  rw [h]
  rfl
 | some q =>
  obtain ⟨l, r⟩ := q
  rw [hv] at h
  simp only at h ⊢
  by_cases hr : r = [] ∨ ∃ r', r = atW :: r'
  ·obtain ⟨h1, h2⟩ := h.1 hr
   rw [h1, h2]
   by_cases hl : l.length > 8
   ·simp [hl, endP]
   ·simp only [if_neg hl, neP]
    by_cases h0 : l = []
    ·simp [h0, endP]
    ·simp only [if_neg h0]
     exact zcqa g t l r
  ·have hx : ∃ x r', r = x :: r' ∧ x ≠ atW := by
    cases r with
    | nil => exact absurd (.inl rfl) hr
    | cons x r' => exact ⟨x, r', rfl, fun hc => hr (.inr ⟨r', by rw [hc]⟩)⟩
   rw [h.2 hx]
   obtain ⟨x, r', rfl, hx'⟩ := hx
   by_cases hl : l.length > 8
   ·simp [hl, endP]
   ·simp only [if_neg hl, neP]
    by_cases h0 : l = []
    ·simp [h0, endP]
    ·simp only [if_neg h0]
     exact (zcqa g t l (x :: r')).trans (zdsa g t l r' hx')
def strip (w : W) : List W → Bool × List W
 | [] => (false, [])
 | x :: ws => if x = w then (true, ws) else (false, x :: ws)
theorem zPma (w : W) (ws : List W) : isP w ws = some (strip w ws) := by
 cases ws with
 | nil => rfl
 | cons x ws => by_cases h : x = w <;> simp [isP, strip, h]
theorem zZsa (ws : List W) : endP (zfma ws) = (let a := strip growW ws; let b := strip trapW a.2; let c := strip giveW b.2; cond c.1 (giveE a.1 b.1 c.2) (restE a.1 b.1 [] c.2)) := by
 have e : zfma ws = (let a := strip growW ws; let b := strip trapW a.2; let c := strip giveW b.2; cond c.1 (bindP (bindP zwga neP) (fun l => restP a.1 b.1 l) c.2) (restP a.1 b.1 [] c.2)) := by
  simp only [zfma]
  rw [bindP, zPma]
  simp only
  rw [bindP, zPma]
  simp only
  rw [bindP, zPma]
  simp only [zkxa]
  cases (strip giveW (strip trapW (strip growW ws).2).2).1 <;> rfl
 rw [e]
 simp only
 cases (strip giveW (strip trapW (strip growW ws).2).2).1 with
 | true => exact zKva _ _ _
 | false => exact zcqa _ _ _ _
section
variable {R : Type}
abbrev gc (g t : Bool) (l : List Int) : zYaa := (g, (t, (l, ((0 : Int), (([] : List (Int)), ())))))
noncomputable abbrev T21 (r : List W) (c : zYaa) (K : zYaa → Bool → Option R) : Option R :=
 let v12 := ((List.length r : Nat) : Int)
 let v13 := v12 == (0 : Int)
 cond v13
 (K c true)
 (zKca (fun w14 w15 =>
 K w14 w15) (fun w16 w17 w18 =>
 cond (inB (1 : Int) (List.length w16))
 (let v19 := List.getD w16 (1 : Int).toNat ([] : List UInt8)
 zaaa v19 fun r20 r21 =>
 cond (inB (2 : Int) (List.length w16))
 (let v22 := List.getD w16 (2 : Int).toNat ([] : List UInt8)
 zuba v22 fun r23 r24 =>
 cond r21
 (K (w18.1, (w18.2.1, (w18.2.2.1, (r20, (r23, w18.2.2.2.2.2))))) r24)
 (K (w18.1, (w18.2.1, (w18.2.2.1, (r20, (r23, w18.2.2.2.2.2))))) false)) none) none) ⟨r, zC, c⟩)
theorem zuwa (r : List W) (hs : small r) (g t : Bool) (l : List Int) : Is (R := R) (fun K => T21 r (gc g t l) K) (restE g t l r) := by
 intro K
 show ∃ v b, T21 r (gc g t l) K = K v b ∧ _
 match r, hs with
 | [], _ => exact ⟨_, true, rfl, rfl⟩
 | [_], _ => exact ⟨_, false, rfl, rfl⟩
 | [_, _], _ => exact ⟨_, false, rfl, rfl⟩
 | [a, n, x], hs =>
  by_cases h : a = atW
  ·subst h
   obtain ⟨y, b, e1, e2⟩ := zeca (R := R) n (fun r20 r21 => zuba x fun r23 r24 => cond r21 (K (g, (t, (l, (r20, (r23, ()))))) r24) (K (g, (t, (l, (r20, (r23, ()))))) false))
   obtain ⟨z, c, e3, e4⟩ := zPqa (R := R) x (hs x (by simp)).2 (fun r23 r24 => cond b (K (g, (t, (l, (y, (r23, ()))))) r24) (K (g, (t, (l, (y, (r23, ()))))) false))
   refine ⟨(g, (t, (l, (y, (z, ()))))), b && c, ?_, ?_⟩
   ·refine Eq.trans (b := zaaa n (fun r20 r21 => zuba x fun r23 r24 => cond r21 (K (g, (t, (l, (r20, (r23, ()))))) r24) (K (g, (t, (l, (r20, (r23, ()))))) false))) rfl ?_
    refine e1.trans (e3.trans ?_)
    cases b <;> rfl
   ·simp only [restE, if_true, e2, e4]
    cases b <;> cases c <;> rfl
  ·have f : (a == ([97, 116] : List UInt8)) = false := by simpa using h
   refine ⟨gc g t l, false, ?_, by rw [zdsa g t l _ h]; rfl⟩
   show (cond (!(a == ([97, 116] : List UInt8))) (K (gc g t l) false) _) = _
   rw [f]; rfl
 | a :: n :: x :: y :: r, _ =>
  refine ⟨gc g t l, false, ?_, rfl⟩
  unfold T21 zKca
  simp only [znha, zBfa]
  rw [if_neg (by simp only [List.length_cons]; omega), if_neg (by simp only [List.length_cons]; omega)]
theorem zpxa (kx : List W → zYaa → zYaa → Int → Option R) (ws : List W) (hl : ws.length ≤ most) (z c : zYaa) : ∀ (n i : Nat), ws.length ≤ i + n → i ≤ ws.length →
  loopN (zrba kx) (n + 1) ⟨ws, z, c, (i : Int)⟩ = kx ws z c ((i + ((ws.drop i).takeWhile nAt).length : Nat) : Int) := by
 have hm : most = 4294967296 := rfl
 intro n
 induction n with
 | zero =>
  intro i h1 h2
  rw [zqaa]
  unfold zrba zLca
  simp only [zjaa]
  rw [if_neg (by omega), List.drop_of_length_le (by omega)]
  rfl
 | succ n ih =>
  intro i h1 h2
  rw [zqaa]
  generalize loopN (zrba kx) (n + 1) = rec at ih ⊢
  unfold zrba zLca
  by_cases hi : i < ws.length
  ·simp only [Int.toNat_natCast]
   simp only [zjaa, zVaa]
   rw [if_pos (by omega), if_pos ⟨by omega, by omega⟩, ziea ws i [] hi, List.takeWhile_cons]
   generalize ws.getD i [] = w
   have e : nAt w = !(w == ([97, 116] : List UInt8)) := rfl
   rw [e]
   cases (w == ([97, 116] : List UInt8)) with
   | true => rfl
   | false =>
    simp only [Bool.not_false, cond_true, if_true]
    rw [w_i64 (by omega), show (i : Int) + 1 = ((i + 1 : Nat) : Int) by omega, ih (i + 1) (by omega) (by omega)]
    congr 2
    simp only [List.length_cons]
    omega
  ·simp only [zjaa]
   rw [if_neg (by omega), List.drop_of_length_le (by omega)]
   rfl
theorem zFpa (ws : List W) : ws.drop (ws.takeWhile nAt).length = ws.dropWhile nAt :=
 (congrArg (fun l => l.drop (ws.takeWhile nAt).length) (List.takeWhile_append_dropWhile (p := nAt) (l := ws)).symm).trans (List.drop_left ..)
theorem zapa (ws : List W) : ws.take (ws.takeWhile nAt).length = ws.takeWhile nAt :=
 (congrArg (fun l => l.take (ws.takeWhile nAt).length) (List.takeWhile_append_dropWhile (p := nAt) (l := ws)).symm).trans (List.take_left ..)
theorem zTpa (ws : List W) : (ws.takeWhile nAt).length ≤ ws.length := by
 have := congrArg List.length (List.takeWhile_append_dropWhile (p := nAt) (l := ws))
 rw [List.length_append] at this
 omega
theorem zEpa {ws : List W} {w : W} (h : w ∈ ws.dropWhile nAt) : w ∈ ws := by
 rw [← List.takeWhile_append_dropWhile (p := nAt) (l := ws)]
 exact List.mem_append_right _ h
theorem zfla {w : W} {ws : List W} (h : small ws) : small (strip w ws).2 := by
 cases ws with
 | nil => exact h
 | cons x ws =>
  by_cases hx : x = w
  ·simp only [strip, if_pos hx]; exact fun y hy => h y (List.mem_cons_of_mem _ hy)
  ·simp only [strip, if_neg hx]; exact h
theorem zwoa (w : W) (ws : List W) : (strip w ws).2.length ≤ ws.length := by
 cases ws with
 | nil => exact Nat.le_refl _
 | cons x ws =>
  by_cases hx : x = w
  ·simp [strip, hx]
  ·simp [strip, hx]
theorem j5_eq (ws : List W) (k : List W → zYaa → zYaa → Option R) (z c : zYaa) : zLda k ⟨ws, z, c⟩ = k (strip growW ws).2 z (cond (strip growW ws).1 (true, c.2) c) := by
 unfold zLda
 cases ws with
 | nil => rfl
 | cons x ws =>
  simp only [show (0 : Int).toNat = 0 from rfl, List.getD_cons_zero, zmla]
  simp only [zjaa, zVaa, zjka, zBfa]
  rw [if_pos (by simp only [List.length_cons]; omega), if_pos (by simp only [List.length_cons]; omega)]
  unfold strip
  by_cases h : x = growW
  ·simp only [if_pos h]
   rw [if_pos (by simp only [List.length_cons]; omega)]
   rfl
  ·simp only [if_neg h]
   rfl
theorem j8_eq (ws : List W) (k : List W → zYaa → zYaa → Option R) (z c : zYaa) : zKda k ⟨ws, z, c⟩ = k (strip trapW ws).2 z (cond (strip trapW ws).1 (c.1, (true, c.2.2)) c) := by
 unfold zKda
 cases ws with
 | nil => rfl
 | cons x ws =>
  simp only [show (0 : Int).toNat = 0 from rfl, List.getD_cons_zero, zmla]
  simp only [zjaa, zVaa, zjka, zBfa]
  rw [if_pos (by simp only [List.length_cons]; omega), if_pos (by simp only [List.length_cons]; omega)]
  unfold strip
  by_cases h : x = trapW
  ·simp only [if_pos h]
   rw [if_pos (by simp only [List.length_cons]; omega)]
   rfl
  ·simp only [if_neg h]
   rfl
theorem zlxa (ws : List W) (hs : small ws) (hl : ws.length + 1 ≤ most) (g t : Bool) (K : zYaa → Bool → Option R) :
  ∃ v b, zqba (fun w7 w8 => K w7 w8) (fun w9 _ w11 => T21 w9 w11 K) ⟨giveW :: ws, zC, gc g t []⟩ = K v b ∧ giveE g t ws = if b = true then some v else none := by
 have hm : most = 4294967296 := rfl
 unfold zqba
 simp only [show (0 : Int).toNat = 0 from rfl, List.getD_cons_zero]
 rw [show (giveW == ([103, 105, 118, 101] : List UInt8)) = true from rfl]
 rw [show decide (((List.length (giveW :: ws) : Nat) : Int) > 0) = true by simp only [List.length_cons, decide_eq_true_eq]; omega]
 rw [show inB (0 : Int) (List.length (giveW :: ws)) = true by unfold inB; simp only [List.length_cons, Bool.and_eq_true, decide_eq_true_eq]; omega]
 simp only [cond_true]
 obtain ⟨m, hf⟩ := ztda ((giveW :: ws).length + 1) (by simp only [List.length_cons]; omega)
 rw [hf]
 have hk := zTpa ws
 generalize hkx : (fun w5 w6 w7 w8 => _ : List W → zYaa → zYaa → Int → Option R) = kx
 have hloop := zpxa (R := R) kx (giveW :: ws) (by simpa using hl) zC (gc g t []) (m + (giveW :: ws).length) 1 (by simp only [List.length_cons]; omega) (by simp only [List.length_cons]; omega)
 rw [show ((1 : Nat) : Int) = (1 : Int) from rfl] at hloop
 rw [← Nat.add_assoc, hloop, List.drop_succ_cons, List.drop_zero, ← hkx]
 simp only [zjka]
 rw [if_pos (by simp only [List.length_cons]; omega)]
 have e1 : rng (giveW :: ws) (1 : Int) ((1 + (ws.takeWhile nAt).length : Nat) : Int) = ws.takeWhile nAt := by
  simp only [rng, Int.toNat_natCast]
  rw [Nat.add_comm, List.take_succ_cons, zapa]
  rfl
 rw [e1]
 have key : ∀ (k2 : List Int → Bool → Option R), (∀ l b, valsE (ws.takeWhile nAt) = (if b = true then some l else none) → ∃ v b', k2 l b = K v b' ∧ giveE g t ws = if b' = true then some v else none) → ∃ v b', zNaa (ws.takeWhile nAt) k2 = K v b' ∧ giveE g t ws = if b' = true then some v else none := by
  intro k2 h
  obtain ⟨l, b, e2, e3⟩ := zcpa (R := R) (ws.takeWhile nAt) (by omega) k2
  obtain ⟨v, b', h1, h2⟩ := h l b e3
  exact ⟨v, b', e2.trans h1, h2⟩
 refine key _ fun l b e3 => ?_
 unfold zVea
 unfold giveE
 rw [e3]
 cases b with
 | false => exact ⟨_, false, rfl, rfl⟩
 | true =>
  simp only [Bool.not_true, cond_false, if_true]
  simp only [zBfa]
  by_cases h0 : l = []
  ·subst h0
   exact ⟨_, false, rfl, rfl⟩
  ·have : 0 < l.length := by cases l <;> simp at h0 ⊢
   rw [if_neg (by omega), if_neg h0, if_pos (by simp only [List.length_cons]; omega)]
   have e4 : rng (giveW :: ws) ((1 + (ws.takeWhile nAt).length : Nat) : Int) ((List.length (giveW :: ws) : Nat) : Int) = ws.dropWhile nAt := by
    simp only [rng, Int.toNat_natCast, List.take_length]
    rw [Nat.add_comm, List.drop_succ_cons, zFpa]
   rw [e4]
   exact zuwa (ws.dropWhile nAt) (fun w hw => hs w (zEpa hw)) g t l K
theorem zmsa (ws : List W) (hs : small ws) (hl : ws.length ≤ most) : Is (R := R) (fun K => znca ws K) (endP (zfma ws)) := by
 intro K
 show ∃ v b, znca ws K = K v b ∧ _
 rw [zZsa]
 unfold znca
 rw [j5_eq, j8_eq]
 have h1 := zfla (w := growW) hs
 have h2 := zfla (w := trapW) h1
 have l1 := zwoa growW ws
 have l2 := zwoa trapW (strip growW ws).2
 simp only
 generalize strip growW ws = a at h1 h2 l1 l2
 obtain ⟨g, ws1⟩ := a
 simp only at h1 h2 l1 l2 ⊢
 generalize strip trapW ws1 = a at h2 l2
 obtain ⟨t, ws2⟩ := a
 simp only at h2 l2 ⊢
 have ec : cond t ((cond g ((true, (zC : zYaa).2) : zYaa) zC).1, (true, (cond g ((true, (zC : zYaa).2) : zYaa) zC).2.2)) (cond g ((true, (zC : zYaa).2) : zYaa) zC) = gc g t [] := by cases g <;> cases t <;> rfl
 have main : ∀ c : zYaa, c = gc g t [] → ∃ v b, zqba (fun w7 w8 => K w7 w8) (fun w9 _ w11 => T21 w9 w11 K) ⟨ws2, zC, c⟩ = K v b ∧ (cond (strip giveW ws2).1 (giveE g t (strip giveW ws2).2) (restE g t [] (strip giveW ws2).2)) = if b = true then some v else none := by
  rintro c rfl
  cases ws2 with
  | nil => exact ⟨_, true, rfl, rfl⟩
  | cons x r =>
   by_cases h : x = giveW
   ·subst h
    have := zlxa (R := R) r (fun w hw => h2 w (List.mem_cons_of_mem _ hw)) (by simp only [List.length_cons] at l2; omega) g t K
    exact this
   ·have f : (x == ([103, 105, 118, 101] : List UInt8)) = false := by simpa using h
    have e : strip giveW (x :: r) = (false, x :: r) := by simp only [strip, if_neg h]
    rw [e]
    unfold zqba
    simp only [show (0 : Int).toNat = 0 from rfl, List.getD_cons_zero, f, cond_false]
    simp only [zjaa, zVaa]
    rw [if_pos (by simp only [List.length_cons]; omega), if_pos (by simp only [List.length_cons]; omega)]
    exact zuwa (x :: r) h2 g t [] K
 exact main _ ec
end
end Go.Trm.G1
namespace Go.Trm.G1
def oneE {α β : Type} (p : W → Option α) (mk : α → β) : List W → Option β
 | [w] => (p w).map mk
 | _ => none
def twoE {α β γ : Type} (p : W → Option α) (q : W → Option β) (mk : α → β → γ) : List W → Option γ
 | [w, v] => (match p w, q v with
  | some x, some y => some (mk x y)
  | _, _ => none)
 | _ => none
theorem zVsa {α β : Type} (p : W → Option α) (mk : α → β) (ws : List W) : endP (bindP (wordP p) (fun x => retP (mk x)) ws) = oneE p mk ws := by
 match ws with
 | [] => rfl
 | [w] => simp only [bindP, oneE]; rw [zEaa]; cases p w <;> rfl
 | w :: x :: r => simp only [bindP]; rw [zEaa]; cases p w <;> rfl
theorem zBua {α β : Type} (P : PS α) (mk : α → β) (ws : List W) : endP (bindP P (fun x => retP (mk x)) ws) = (endP (P ws)).map mk := by
 unfold bindP
 cases P ws with
 | none => rfl
 | some q => obtain ⟨x, r⟩ := q; cases r <;> rfl
theorem znxa {α β γ : Type} (p : W → Option α) (q : W → Option β) (mk : α → β → γ) (ws : List W) : endP (bindP (wordP p) (fun x => bindP (wordP q) fun y => retP (mk x y)) ws) = twoE p q mk ws := by
 match ws with
 | [] => rfl
 | [w] => simp only [bindP]; rw [zEaa]; cases p w <;> rfl
 | [w, v] =>
  simp only [bindP, twoE]; rw [zEaa]
  cases p w with
  | none => rfl
  | some x => simp only; rw [zEaa]; cases q v <;> rfl
 | w :: v :: x :: r =>
  simp only [bindP]; rw [zEaa]
  cases p w with
  | none => rfl
  | some x => simp only; rw [zEaa]; cases q v <;> rfl
def callE : List W → Option ActT
 | s :: n :: ws => match nameT s, numT n, valsE ws with
  | some s, some n, some l => some (mkA 5 [] zG zC s l n 0 0)
  | _, _, _ => none
 | _ => none
theorem zRva (ws : List W) : endP (bindP (wordP nameT) (fun s => bindP (wordP numT) fun n => bindP zwga fun l => retP (mkA 5 [] zG zC s l n 0 0)) ws) = callE ws := by
 match ws with
 | [] => rfl
 | [w] => simp only [bindP]; rw [zEaa]; cases nameT w <;> rfl
 | w :: v :: r =>
  simp only [bindP, callE]; rw [zEaa]
  cases nameT w with
  | none => rfl
  | some x =>
   simp only; rw [zEaa]
   cases numT v with
   | none => rfl
   | some n =>
    simp only
    rw [← zPra]
    cases zwga r with
    | none => rfl
    | some q => obtain ⟨l, r'⟩ := q; cases r' <;> rfl
section
variable {R : Type}
theorem Is.map {α β : Type} {p : (α → Bool → Option R) → Option R} {o : Option α} (h : Is p o) (mk : α → β) : Is (fun K => p fun x b => K (mk x) b) (o.map mk) := by
 intro K
 obtain ⟨v, b, h1, h2⟩ := h (fun x b => K (mk x) b)
 refine ⟨mk v, b, h1, ?_⟩
 rw [h2]
 cases b <;> rfl
theorem zKja {w : W} {ws : List W} (i : Nat) (h : i < (w :: ws).length) : inB (i : Int) (List.length (w :: ws)) = true := by
 unfold inB; simp only [Bool.and_eq_true, decide_eq_true_eq]; omega
theorem zMsa {l : List W} (i : Nat) (h : i ≤ l.length) : inR (i : Int) ((List.length l : Nat) : Int) (List.length l) = true := by
 unfold inR; simp only [Bool.and_eq_true, decide_eq_true_eq]; omega
theorem ztta (a b c : W) (l : List W) : rng (a :: b :: c :: l) (3 : Int) ((List.length (a :: b :: c :: l) : Nat) : Int) = l := by
 simp only [rng, Int.toNat_natCast, List.take_length]
 rfl
abbrev a0 : ActT := mkA 0 [] zG zC [] [] 0 0 0
theorem act27 (w : W) (ws : List W) (K : ActT → Bool → Option R) : zoaa (w :: ws) K = zAaa (fun _ w3 w4 w5 => cond w4 (K w3 w5) (K w3 false)) (fun w6 w7 => K w6 w7) ⟨w :: ws, a0, a0, true, true, ((List.length (w :: ws) : Nat) : Int)⟩ := rfl
theorem zxra (ws : List W) (hs : small ws) : Is (R := R) (fun K => zoaa (zkka :: ws) K) (oneE hexW (fun b => mkA 1 b zG zC [] [] 0 0 0) ws) := by
 intro K
 show ∃ v b, zoaa (zkka :: ws) K = K v b ∧ _
 rw [act27]
 have i0 : inB (0 : Int) (List.length (zkka :: ws)) = true := zKja 0 (by simp)
 match ws, hs, i0 with
 | [], _, _ => exact ⟨_, false, rfl, rfl⟩
 | [x], hs, _ =>
  obtain ⟨v, b, e1, e2⟩ := zPqa (R := R) x (hs x (by simp)).2 (fun r5 r6 => cond r6 (K (mkA 1 r5 zG zC [] [] 0 0 0) true) (K (mkA 1 r5 zG zC [] [] 0 0 0) false))
  refine ⟨mkA 1 v zG zC [] [] 0 0 0, b, ?_, by simp only [oneE, e2]; cases b <;> rfl⟩
  refine Eq.trans (Eq.trans rfl e1) ?_
  cases b <;> rfl
 | x :: y :: r, _, i0 =>
  refine ⟨a0, false, ?_, rfl⟩
  have l2 : (((List.length (zkka :: x :: y :: r) : Nat) : Int) == 2) = false := by simp only [List.length_cons, beq_eq_false_iff_ne]; omega
  unfold zAaa
  simp only [i0, l2, show (0 : Int).toNat = 0 from rfl, show (1 : Int).toNat = 1 from rfl, show (2 : Int).toNat = 2 from rfl, List.getD_cons_zero, List.getD_cons_succ, cond_true, cond_false, (show (zkka == ([98, 121, 116, 101, 115] : List UInt8)) = true from rfl), (show (zkka == ([103, 105, 118, 101] : List UInt8)) = false from rfl), (show (zkka == ([99, 104, 111, 105, 99, 101] : List UInt8)) = false from rfl), (show (zkka == ([111, 112, 101, 110] : List UInt8)) = false from rfl), (show (zkka == ([99, 97, 108, 108] : List UInt8)) = false from rfl), (show (zkka == ([114, 101, 97, 100] : List UInt8)) = false from rfl), (show (zkka == ([112, 101, 101, 107] : List UInt8)) = false from rfl)]
theorem zpsa (ws : List W) (hs : small ws) : Is (R := R) (fun K => zoaa (openW :: ws) K) (oneE numT (fun n => mkA 4 [] zG zC [] [] n 0 0) ws) := by
 intro K
 show ∃ v b, zoaa (openW :: ws) K = K v b ∧ _
 rw [act27]
 have i0 : inB (0 : Int) (List.length (openW :: ws)) = true := zKja 0 (by simp)
 match ws, hs, i0 with
 | [], _, _ => exact ⟨_, false, rfl, rfl⟩
 | [x], hs, _ =>
  obtain ⟨v, b, e1, e2⟩ := zeca (R := R) x (fun r5 r6 => cond r6 (K (mkA 4 [] zG zC [] [] r5 0 0) true) (K (mkA 4 [] zG zC [] [] r5 0 0) false))
  refine ⟨mkA 4 [] zG zC [] [] v 0 0, b, ?_, by simp only [oneE, e2]; cases b <;> rfl⟩
  refine Eq.trans (Eq.trans rfl e1) ?_
  cases b <;> rfl
 | x :: y :: r, _, i0 =>
  refine ⟨a0, false, ?_, rfl⟩
  have l2 : (((List.length (openW :: x :: y :: r) : Nat) : Int) == 2) = false := by simp only [List.length_cons, beq_eq_false_iff_ne]; omega
  unfold zAaa
  simp only [i0, l2, show (0 : Int).toNat = 0 from rfl, show (1 : Int).toNat = 1 from rfl, show (2 : Int).toNat = 2 from rfl, List.getD_cons_zero, List.getD_cons_succ, cond_true, cond_false, (show (openW == ([98, 121, 116, 101, 115] : List UInt8)) = false from rfl), (show (openW == ([103, 105, 118, 101] : List UInt8)) = false from rfl), (show (openW == ([99, 104, 111, 105, 99, 101] : List UInt8)) = false from rfl), (show (openW == ([111, 112, 101, 110] : List UInt8)) = true from rfl), (show (openW == ([99, 97, 108, 108] : List UInt8)) = false from rfl), (show (openW == ([114, 101, 97, 100] : List UInt8)) = false from rfl), (show (openW == ([112, 101, 101, 107] : List UInt8)) = false from rfl)]
theorem znsa (ws : List W) (hs : small ws) : Is (R := R) (fun K => zoaa (readW :: ws) K) (oneE nameT (fun s => mkA 6 [] zG zC s [] 0 0 0) ws) := by
 intro K
 show ∃ v b, zoaa (readW :: ws) K = K v b ∧ _
 rw [act27]
 have i0 : inB (0 : Int) (List.length (readW :: ws)) = true := zKja 0 (by simp)
 match ws, hs, i0 with
 | [], _, _ => exact ⟨_, false, rfl, rfl⟩
 | [x], hs, i0 =>
  have l2 : (((List.length (readW :: [x]) : Nat) : Int) == 2) = true := rfl
  have i1 : inB (1 : Int) (List.length (readW :: [x])) = true := rfl
  have hn := fun (K : Bool → Option R) => zOqa (R := R) x (hs x (by simp)).2 K
  unfold oneE nameT
  unfold zAaa
  simp only [i0, i1, l2, hn, show (0 : Int).toNat = 0 from rfl, show (1 : Int).toNat = 1 from rfl, show (2 : Int).toNat = 2 from rfl, List.getD_cons_zero, List.getD_cons_succ, cond_true, cond_false, (show (readW == ([98, 121, 116, 101, 115] : List UInt8)) = false from rfl), (show (readW == ([103, 105, 118, 101] : List UInt8)) = false from rfl), (show (readW == ([99, 104, 111, 105, 99, 101] : List UInt8)) = false from rfl), (show (readW == ([111, 112, 101, 110] : List UInt8)) = false from rfl), (show (readW == ([99, 97, 108, 108] : List UInt8)) = false from rfl), (show (readW == ([114, 101, 97, 100] : List UInt8)) = true from rfl), (show (readW == ([112, 101, 101, 107] : List UInt8)) = false from rfl)]
  cases zJoa x with
  | true => exact ⟨_, true, rfl, rfl⟩
  | false => exact ⟨a0, false, rfl, rfl⟩
 | x :: y :: r, _, i0 =>
  refine ⟨a0, false, ?_, rfl⟩
  have l2 : (((List.length (readW :: x :: y :: r) : Nat) : Int) == 2) = false := by simp only [List.length_cons, beq_eq_false_iff_ne]; omega
  unfold zAaa
  simp only [i0, l2, show (0 : Int).toNat = 0 from rfl, show (1 : Int).toNat = 1 from rfl, show (2 : Int).toNat = 2 from rfl, List.getD_cons_zero, List.getD_cons_succ, cond_true, cond_false, (show (readW == ([98, 121, 116, 101, 115] : List UInt8)) = false from rfl), (show (readW == ([103, 105, 118, 101] : List UInt8)) = false from rfl), (show (readW == ([99, 104, 111, 105, 99, 101] : List UInt8)) = false from rfl), (show (readW == ([111, 112, 101, 110] : List UInt8)) = false from rfl), (show (readW == ([99, 97, 108, 108] : List UInt8)) = false from rfl), (show (readW == ([114, 101, 97, 100] : List UInt8)) = true from rfl), (show (readW == ([112, 101, 101, 107] : List UInt8)) = false from rfl)]
theorem zosa (ws : List W) (hs : small ws) : Is (R := R) (fun K => zoaa (peekW :: ws) K) (twoE numT numT (fun x y => mkA 7 [] zG zC [] [] 0 x y) ws) := by
 intro K
 show ∃ v b, zoaa (peekW :: ws) K = K v b ∧ _
 rw [act27]
 have i0 : inB (0 : Int) (List.length (peekW :: ws)) = true := zKja 0 (by simp)
 match ws, hs, i0 with
 | [], _, _ => exact ⟨_, false, rfl, rfl⟩
 | [x], _, _ => exact ⟨_, false, rfl, rfl⟩
 | [x, y], hs, i0 =>
  obtain ⟨v, b, e1, e2⟩ := zeca (R := R) x (fun r5 r6 => zaaa y fun r7 r8 => cond r6 (K (mkA 7 [] zG zC [] [] 0 r5 r7) r8) (K (mkA 7 [] zG zC [] [] 0 r5 r7) false))
  obtain ⟨u, c, e3, e4⟩ := zeca (R := R) y (fun r7 r8 => cond b (K (mkA 7 [] zG zC [] [] 0 v r7) r8) (K (mkA 7 [] zG zC [] [] 0 v r7) false))
  refine ⟨mkA 7 [] zG zC [] [] 0 v u, b && c, ?_, by simp only [twoE, e2, e4]; cases b <;> cases c <;> rfl⟩
  refine Eq.trans (Eq.trans rfl e1) (e3.trans ?_)
  cases b <;> rfl
 | x :: y :: z :: r, _, i0 =>
  refine ⟨a0, false, ?_, rfl⟩
  have l2 : (((List.length (peekW :: x :: y :: z :: r) : Nat) : Int) == 3) = false := by simp only [List.length_cons, beq_eq_false_iff_ne]; omega
  unfold zAaa
  simp only [i0, l2, show (0 : Int).toNat = 0 from rfl, show (1 : Int).toNat = 1 from rfl, show (2 : Int).toNat = 2 from rfl, List.getD_cons_zero, List.getD_cons_succ, cond_true, cond_false, (show (peekW == ([98, 121, 116, 101, 115] : List UInt8)) = false from rfl), (show (peekW == ([103, 105, 118, 101] : List UInt8)) = false from rfl), (show (peekW == ([99, 104, 111, 105, 99, 101] : List UInt8)) = false from rfl), (show (peekW == ([111, 112, 101, 110] : List UInt8)) = false from rfl), (show (peekW == ([99, 97, 108, 108] : List UInt8)) = false from rfl), (show (peekW == ([114, 101, 97, 100] : List UInt8)) = false from rfl), (show (peekW == ([112, 101, 101, 107] : List UInt8)) = true from rfl)]
theorem zrsa (ws : List W) (hs : small ws) (hl : ws.length ≤ most) : Is (R := R) (fun K => zoaa (callW :: ws) K) (callE ws) := by
 intro K
 show ∃ v b, zoaa (callW :: ws) K = K v b ∧ _
 rw [act27]
 have i0 : inB (0 : Int) (List.length (callW :: ws)) = true := zKja 0 (by simp)
 match ws, hs, i0, hl with
 | [], _, _, _ => exact ⟨_, false, rfl, rfl⟩
 | [x], _, _, _ => exact ⟨_, false, rfl, rfl⟩
 | x :: y :: r, hs, i0, hl =>
  have l3 : decide (((List.length (callW :: x :: y :: r) : Nat) : Int) ≥ 3) = true := by simp only [List.length_cons, decide_eq_true_eq]; omega
  have i1 : inB (1 : Int) (List.length (callW :: x :: y :: r)) = true := zKja 1 (by simp)
  have i2 : inB (2 : Int) (List.length (callW :: x :: y :: r)) = true := zKja 2 (by simp)
  have i3 : inR (3 : Int) ((List.length (callW :: x :: y :: r) : Nat) : Int) (List.length (callW :: x :: y :: r)) = true := zMsa 3 (by simp)
  have hn := fun (K : Bool → Option R) => zOqa (R := R) x (hs x (by simp)).2 K
  unfold callE nameT
  unfold zAaa
  simp only [i0, i1, i2, i3, l3, hn, ztta, show (0 : Int).toNat = 0 from rfl, show (1 : Int).toNat = 1 from rfl, show (2 : Int).toNat = 2 from rfl, List.getD_cons_zero, List.getD_cons_succ, cond_true, cond_false, (show (callW == ([98, 121, 116, 101, 115] : List UInt8)) = false from rfl), (show (callW == ([103, 105, 118, 101] : List UInt8)) = false from rfl), (show (callW == ([99, 104, 111, 105, 99, 101] : List UInt8)) = false from rfl), (show (callW == ([111, 112, 101, 110] : List UInt8)) = false from rfl), (show (callW == ([99, 97, 108, 108] : List UInt8)) = true from rfl), (show (callW == ([114, 101, 97, 100] : List UInt8)) = false from rfl), (show (callW == ([112, 101, 101, 107] : List UInt8)) = false from rfl)]
  cases zJoa x with
  | false => exact ⟨a0, false, rfl, rfl⟩
  | true =>
   simp only [cond_true, if_true]
   obtain ⟨v, b, e1, e2⟩ := zeca (R := R) y (fun r5 r6 => zNaa r fun r7 r8 => cond r6 (K (mkA 5 [] zG zC x r7 r5 0 0) r8) (K (mkA 5 [] zG zC x r7 r5 0 0) false))
   obtain ⟨u, c, e3, e4⟩ := zcpa (R := R) r (by simp only [List.length_cons] at hl; omega) (fun r7 r8 => cond b (K (mkA 5 [] zG zC x r7 v 0 0) r8) (K (mkA 5 [] zG zC x r7 v 0 0) false))
   refine ⟨mkA 5 [] zG zC x u v 0 0, b && c, ?_, by simp only [e2, e4]; cases b <;> cases c <;> rfl⟩
   refine e1.trans (e3.trans ?_)
   cases b <;> rfl
theorem zqsa (ws : List W) (hs : small ws) (hl : ws.length ≤ most) : Is (R := R) (fun K => zoaa (giveW :: ws) K) ((endP (zNka ws)).map (fun g => mkA 2 [] g zC [] [] 0 0 0)) := by
 intro K
 show ∃ v b, zoaa (giveW :: ws) K = K v b ∧ _
 rw [act27]
 have i0 : inB (0 : Int) (List.length (giveW :: ws)) = true := zKja 0 (by simp)
 have i1 : inR (1 : Int) ((List.length (giveW :: ws) : Nat) : Int) (List.length (giveW :: ws)) = true := zMsa 1 (by simp)
 unfold zAaa
 simp only [i0, i1, zmla, show (0 : Int).toNat = 0 from rfl, show (1 : Int).toNat = 1 from rfl, show (2 : Int).toNat = 2 from rfl, List.getD_cons_zero, List.getD_cons_succ, cond_true, cond_false, (show (giveW == ([98, 121, 116, 101, 115] : List UInt8)) = false from rfl), (show (giveW == ([103, 105, 118, 101] : List UInt8)) = true from rfl), (show (giveW == ([99, 104, 111, 105, 99, 101] : List UInt8)) = false from rfl), (show (giveW == ([111, 112, 101, 110] : List UInt8)) = false from rfl), (show (giveW == ([99, 97, 108, 108] : List UInt8)) = false from rfl), (show (giveW == ([114, 101, 97, 100] : List UInt8)) = false from rfl), (show (giveW == ([112, 101, 101, 107] : List UInt8)) = false from rfl)]
 obtain ⟨v, b, e1, e2⟩ := zvta (R := R) ws (fun r5 r6 => cond r6 (K ((fun g => mkA 2 [] g zC [] [] 0 0 0) r5) true) (K ((fun g => mkA 2 [] g zC [] [] 0 0 0) r5) false))
 refine ⟨(fun g => mkA 2 [] g zC [] [] 0 0 0) v, b, ?_, by rw [e2]; cases b <;> rfl⟩
 refine Eq.trans e1 ?_
 cases b <;> rfl
theorem zhqa (ws : List W) (hs : small ws) (hl : ws.length ≤ most) : Is (R := R) (fun K => zoaa (zafa :: ws) K) ((endP (zfma ws)).map (fun g => mkA 3 [] zG g [] [] 0 0 0)) := by
 intro K
 show ∃ v b, zoaa (zafa :: ws) K = K v b ∧ _
 rw [act27]
 have i0 : inB (0 : Int) (List.length (zafa :: ws)) = true := zKja 0 (by simp)
 have i1 : inR (1 : Int) ((List.length (zafa :: ws) : Nat) : Int) (List.length (zafa :: ws)) = true := zMsa 1 (by simp)
 unfold zAaa
 simp only [i0, i1, zmla, show (0 : Int).toNat = 0 from rfl, show (1 : Int).toNat = 1 from rfl, show (2 : Int).toNat = 2 from rfl, List.getD_cons_zero, List.getD_cons_succ, cond_true, cond_false, (show (zafa == ([98, 121, 116, 101, 115] : List UInt8)) = false from rfl), (show (zafa == ([103, 105, 118, 101] : List UInt8)) = false from rfl), (show (zafa == ([99, 104, 111, 105, 99, 101] : List UInt8)) = true from rfl), (show (zafa == ([111, 112, 101, 110] : List UInt8)) = false from rfl), (show (zafa == ([99, 97, 108, 108] : List UInt8)) = false from rfl), (show (zafa == ([114, 101, 97, 100] : List UInt8)) = false from rfl), (show (zafa == ([112, 101, 101, 107] : List UInt8)) = false from rfl)]
 obtain ⟨v, b, e1, e2⟩ := zmsa (R := R) ws hs hl (fun r5 r6 => cond r6 (K ((fun g => mkA 3 [] zG g [] [] 0 0 0) r5) true) (K ((fun g => mkA 3 [] zG g [] [] 0 0 0) r5) false))
 refine ⟨(fun g => mkA 3 [] zG g [] [] 0 0 0) v, b, ?_, by rw [e2]; cases b <;> rfl⟩
 refine Eq.trans e1 ?_
 cases b <;> rfl
theorem zGwa (w : W) (ws : List W) (d1 : ¬ w = zkka) (d2 : ¬ w = giveW) (d3 : ¬ w = zafa) (d4 : ¬ w = openW) (d5 : ¬ w = callW) (d6 : ¬ w = readW) (d7 : ¬ w = peekW) : Is (R := R) (fun K => zoaa (w :: ws) K) none := by
 intro K
 show ∃ v b, zoaa (w :: ws) K = K v b ∧ _
 rw [act27]
 have i0 : inB (0 : Int) (List.length (w :: ws)) = true := zKja 0 (by simp)
 refine ⟨a0, false, ?_, rfl⟩
 unfold zAaa
 simp only [i0, show (0 : Int).toNat = 0 from rfl, show (1 : Int).toNat = 1 from rfl, show (2 : Int).toNat = 2 from rfl, List.getD_cons_zero, List.getD_cons_succ, cond_true, cond_false, (show (w == ([98, 121, 116, 101, 115] : List UInt8)) = false by simpa using d1), (show (w == ([103, 105, 118, 101] : List UInt8)) = false by simpa using d2), (show (w == ([99, 104, 111, 105, 99, 101] : List UInt8)) = false by simpa using d3), (show (w == ([111, 112, 101, 110] : List UInt8)) = false by simpa using d4), (show (w == ([99, 97, 108, 108] : List UInt8)) = false by simpa using d5), (show (w == ([114, 101, 97, 100] : List UInt8)) = false by simpa using d6), (show (w == ([112, 101, 101, 107] : List UInt8)) = false by simpa using d7)]
theorem zHwa (w : W) (ws : List W) (h : small ws) (hl : ws.length ≤ most) : Is (R := R) (fun K => zoaa (w :: ws) K) (actE (w :: ws)) := by
 show Is _ (endP (actP w ws))
 unfold actP
 by_cases d1 : w = zkka
 ·subst d1
  rw [if_pos rfl]
  rw [zVsa]
  exact zxra ws h
 rw [if_neg d1]
 by_cases d2 : w = giveW
 ·subst d2
  rw [if_pos rfl]
  rw [zBua]
  exact zqsa ws h hl
 rw [if_neg d2]
 by_cases d3 : w = zafa
 ·subst d3
  rw [if_pos rfl]
  rw [zBua]
  exact zhqa ws h hl
 rw [if_neg d3]
 by_cases d4 : w = openW
 ·subst d4
  rw [if_pos rfl]
  rw [zVsa]
  exact zpsa ws h
 rw [if_neg d4]
 by_cases d5 : w = callW
 ·subst d5
  rw [if_pos rfl]
  rw [zRva]
  exact zrsa ws h hl
 rw [if_neg d5]
 by_cases d6 : w = readW
 ·subst d6
  rw [if_pos rfl]
  rw [zVsa]
  exact znsa ws h
 rw [if_neg d6]
 by_cases d7 : w = peekW
 ·subst d7
  rw [if_pos rfl]
  rw [znxa]
  exact zosa ws h
 rw [if_neg d7]
 exact zGwa w ws d1 d2 d3 d4 d5 d6 d7
end
end Go.Trm.G1
namespace Go.Trm.G1
def zXna : W → W → List W
 | w, [] => [w]
 | w, b :: l => if b = 10 then w :: zXna [] l else zXna (w ++ [b]) l
theorem zyla : ∀ (l w : W), zXna w l = match zAba 10 l with
  | x :: r => (w ++ x) :: r
  | [] => [w]
 | [], w => by simp [zXna, zAba]
 | b :: l, w => by
  unfold zXna zAba
  by_cases hb : b = 10
  ·rw [if_pos hb, if_pos hb, zyla l []]
   simp only [List.append_nil]
   cases h : zAba 10 l with
   | nil => exact absurd h (zxoa 10 l)
   | cons x r => rfl
  ·rw [if_neg hb, if_neg hb, zyla l (w ++ [b])]
   cases h : zAba 10 l with
   | nil => exact absurd h (zxoa 10 l)
   | cons x r => simp
theorem ztva (l : W) : zXna [] l = zAba 10 l := by
 rw [zyla]
 cases h : zAba 10 l with
 | nil => exact absurd h (zxoa 10 l)
 | cons x r => rfl
inductive zawa | no | bad | act (a : ActT)
def lineA (l : W) : zawa := match zlca [] l with
 | [] => .no
 | w :: ws => if w.head? = some 35 then .no else match actE (w :: ws) with
  | none => .bad
  | some a => .act a
abbrev znra := List ActT × Int × Int
def znfa : List W → Nat → List ActT → znra
 | [], _, out => (out, 0, 0)
 | l :: ls, i, out => if 256 ≤ i ∨ 512 < l.length then ([], 4, ((i + 1 : Nat) : Int)) else match lineA l with
  | .no => znfa ls (i + 1) out
  | .bad => ([], 2, ((i + 1 : Nat) : Int))
  | .act a => znfa ls (i + 1) (out ++ [a])
theorem zqha : ∀ (l w : W), ∀ x ∈ zlca w l, x ≠ []
 | [], w => by
  unfold zlca
  split
  ·simp
  ·intro x hx; simp only [List.mem_singleton] at hx; subst hx; assumption
 | b :: l, w => by
  unfold zlca
  split
  ·split
   ·exact zqha l []
   ·intro x hx
    rcases List.mem_cons.1 hx with hx | hx
    ·subst hx; assumption
    ·exact zqha l [] x hx
  ·exact zqha l _
theorem zdla {l : W} (h : l.length ≤ most) : small (zlca [] l) := fun x hx => ⟨zqha l [] x hx, by have := (zvea l []).2 x hx; simp only [List.length_nil] at this; omega⟩
theorem zcra (w : W) (h : w ≠ []) : (bt w (0 : Int) = 35 ↔ w.head? = some 35) := by
 cases w with
 | nil => exact absurd rfl h
 | cons b l =>
  rw [bt_0]
  simp only [List.head?_cons, Option.some.injEq]
  constructor
  ·intro e; exact UInt8.toNat_inj.1 (by show b.toNat = 35; omega)
  ·intro e; subst e; rfl
section
variable {R : Type}
noncomputable def lineK (kr : List ActT → Int → Int → Option R) (rec : List ActT → Option R) (l : W) (k : Nat) (out : List ActT) : Option R :=
 if 256 ≤ k ∨ 512 < l.length then kr [] 4 ((k + 1 : Nat) : Int) else match lineA l with
  | .no => rec out
  | .bad => kr [] 2 ((k + 1 : Nat) : Int)
  | .act a => rec (out ++ [a])
def fin (kr : List ActT → Int → Int → Option R) (kx : List ActT → Option R) (q : znra) : Option R := if q.2.1 = 0 then kx q.1 else kr q.1 q.2.1 q.2.2
theorem zvqa (kr : List ActT → Int → Int → Option R) (kx : List ActT → Option R) (l : W) (ls : List W) (k : Nat) (out : List ActT) : fin kr kx (znfa (l :: ls) k out) = lineK kr (fun o => fin kr kx (znfa ls (k + 1) o)) l k out := by
 unfold lineK
 conv => lhs; unfold znfa
 split
 ·rfl
 ·split <;> first | rfl | simp_all
theorem zqoa {kr : List ActT → Int → Int → Option R} {rec rec' : List ActT → Option R} {l : W} {k : Nat} {out : List ActT} (ho : out.length ≤ k) (h : ∀ o, o.length ≤ k + 1 → rec o = rec' o) : lineK kr rec l k out = lineK kr rec' l k out := by
 unfold lineK
 split
 ·rfl
 ·split
  ·exact h _ (by omega)
  ·rfl
  ·exact h _ (by simp only [List.length_append, List.length_cons, List.length_nil]; omega)
noncomputable def SB (kr : List ActT → Int → Int → Option R) (rec : zFaa → Option R) (out : List ActT) (ls : List W) (N i : Int) (l : W) : Option R :=
 (let v3 := decide (i ≥ (256 : Int))
 cond v3
 (let v4 := IntKind.i64.wrap (i + (1 : Int))
 kr ([] : List ((Int) × It3)) (4 : Int) v4)
 (let v5 := ((List.length l : Nat) : Int)
 let v6 := decide (v5 > (512 : Int))
 cond v6
 (let v7 := IntKind.i64.wrap (i + (1 : Int))
 kr ([] : List ((Int) × It3)) (4 : Int) v7)
 (zPda l fun r8 =>
 let v9 := ((List.length r8 : Nat) : Int)
 let v10 := v9 == (0 : Int)
 cond v10
 (let v11 := IntKind.i64.wrap (i + (1 : Int))
 rec ⟨out, ls, N, v11⟩)
 (cond (inB (0 : Int) (List.length r8))
 (let v12 := (List.getD r8 (0 : Int).toNat ([] : List UInt8))
 cond (inB (0 : Int) (List.length v12))
 (let v13 := bt v12 (0 : Int)
 let v14 := v13 == (35 : Int)
 cond v14
 (let v15 := IntKind.i64.wrap (i + (1 : Int))
 rec ⟨out, ls, N, v15⟩)
 (zdea r8 fun r16 r17 =>
 let v18 := !r17
 cond v18
 (let v19 := IntKind.i64.wrap (i + (1 : Int))
 kr ([] : List ((Int) × It3)) (2 : Int) v19)
 (let v20 := List.set (List.replicate 1 ((0 : Int), (([] : List (Int)), (((0 : Int), (false, ((0 : Int), ((0 : Int), (false, ((0 : Int), ())))))), ((false, (false, (([] : List (Int)), ((0 : Int), (([] : List (Int)), ()))))), (([] : List UInt8), (([] : List (Int)), ((0 : Int), ((0 : Int), ((0 : Int), ())))))))))) 0 r16
 cond (decide (List.length out + List.length v20 ≤ most))
 (let v21 := out ++ v20
 let v22 := IntKind.i64.wrap (i + (1 : Int))
 rec ⟨v21, ls, N, v22⟩) none))) none) none))))
theorem zGua (kr : List ActT → Int → Int → Option R) (kx : List ActT → Option R) (rec : zFaa → Option R) (out : List ActT) (ls : List W) (N i : Int) :
  zNda kr kx rec ⟨out, ls, N, i⟩ = cond (decide (i < N)) (cond (inB i ls.length) (SB kr rec out ls N i (ls.getD i.toNat [])) none) (kx out) := rfl
theorem sb_eq (kr : List ActT → Int → Int → Option R) (rec : zFaa → Option R) (ls : List W) (out : List ActT) (l : W) (k : Nat) (N : Int) (hl : l.length ≤ most) (hk : k ≤ most) (ho : out.length ≤ k) :
  SB kr rec out ls N (k : Int) l = lineK kr (fun o => rec ⟨o, ls, N, ((k + 1 : Nat) : Int)⟩) l k out := by
 have hm : most = 4294967296 := rfl
 unfold SB lineK
 simp only [zjaa, zVaa, znha, zlja, zBfa]
 rw [w_i64 (n := ((k : Int) + 1)) (by omega), show (k : Int) + 1 = ((k + 1 : Nat) : Int) by omega]
 by_cases c1 : 256 ≤ k
 ·rw [if_pos (by omega), if_pos (.inl c1)]
 rw [if_neg (by omega)]
 by_cases c2 : 512 < l.length
 ·rw [if_pos (by omega), if_pos (.inr c2)]
 rw [if_neg (by omega), if_neg (by omega)]
 show zyka l _ = _
 unfold zyka
 simp only [zjaa]
 rw [if_pos hl]
 have hw := zdla hl
 have hw2 := (zvea l []).1
 unfold lineA
 cases hq : zlca [] l with
 | nil => rfl
 | cons w ws =>
  rw [hq] at hw hw2
  have hw1 := (hw w List.mem_cons_self).1
  have hw0 : 0 < w.length := by cases w; exact absurd rfl hw1; simp
  rw [if_neg (by simp only [List.length_cons]; omega), if_pos (by simp only [List.length_cons]; omega)]
  show (if 0 ≤ (0 : Int) ∧ (0 : Int) < ((w.length : Nat) : Int) then _ else none) = _
  rw [if_pos (by omega)]
  show (if bt w (0 : Int) = (35 : Int) then _ else _) = _
  by_cases hb : w.head? = some 35
  ·rw [if_pos ((zcra w hw1).2 hb)]
   simp only [if_pos hb]
  rw [if_neg (fun e => hb ((zcra w hw1).1 e))]
  simp only [if_neg hb]
  obtain ⟨v, b, e1, e2⟩ := zXxa (R := R) w ws ⟨hw, by simp only [List.length_cons, List.length_nil] at hw2 ⊢; omega⟩ (fun r16 r17 => if r17 = true then (if out.length + (List.set (List.replicate 1 a0) 0 r16).length ≤ most then rec ⟨out ++ List.set (List.replicate 1 a0) 0 r16, ls, N, ((k + 1 : Nat) : Int)⟩ else none) else kr [] 2 ((k + 1 : Nat) : Int))
  refine Eq.trans (Eq.trans ?_ e1) ?_
  ·congr 1
   funext x y
   cases y <;> rfl
  ·rw [e2]
   cases b with
   | false => rfl
   | true =>
    simp only [if_true]
    rw [if_pos (by simp only [List.length_set, List.length_replicate]; omega)]
    rfl
theorem ztsa (kr : List ActT → Int → Int → Option R) (kx : List ActT → Option R) (ls : List W) (hl : ls.length ≤ most) (hs : ∀ x ∈ ls, x.length ≤ most) : ∀ (n i : Nat) (out : List ActT), ls.length ≤ i + n → i ≤ ls.length → out.length ≤ i →
  loopN (zNda kr kx) (n + 1) ⟨out, ls, ((ls.length : Nat) : Int), (i : Int)⟩ = fin kr kx (znfa (ls.drop i) i out) := by
 have hm : most = 4294967296 := rfl
 intro n
 induction n with
 | zero =>
  intro i out h1 h2 h3
  rw [zqaa, zGua]
  simp only [zjaa]
  rw [if_neg (by omega), List.drop_of_length_le (by omega)]
  rfl
 | succ n ih =>
  intro i out h1 h2 h3
  rw [zqaa, zGua]
  simp only [zjaa, zVaa, Int.toNat_natCast]
  by_cases hi : i < ls.length
  case neg =>
   rw [if_neg (by omega), List.drop_of_length_le (by omega)]
   rfl
  have hx : (ls.getD i []).length ≤ most := by
   rw [List.getD_eq_getElem?_getD, List.getElem?_eq_getElem hi]
   exact hs _ (List.getElem_mem hi)
  rw [if_pos (by omega), if_pos (by omega), ziea ls i [] hi, zvqa, sb_eq _ _ _ _ _ _ _ hx (by omega) h3]
  exact zqoa h3 fun o ho => ih (i + 1) o (by omega) (by omega) ho
theorem zGoa : ∀ (ls : List W) (k : Nat) (out : List ActT), (znfa ls k out).2.1 = 0 → (znfa ls k out).2.2 = 0
 | [], _, _ => fun _ => rfl
 | l :: ls, k, out => by
  unfold znfa
  split
  ·intro h; simp at h
  ·split
   ·exact zGoa ls _ _
   ·intro h; simp at h
   ·exact zGoa ls _ _
theorem fin_K (K : List ActT → Int → Int → Option R) (q : znra) (h : q.2.1 = 0 → q.2.2 = 0) : fin (fun w3 w4 w5 => K w3 w4 w5) (fun w6 => K w6 (0 : Int) (0 : Int)) q = K q.1 q.2.1 q.2.2 := by
 unfold fin
 split
 ·rename_i e; rw [e, h e]
 ·rfl
theorem zusa (t : W) (ht : t.length ≤ 2147483648) (K : List ActT → Int → Int → Option R) : zLba t K = K (znfa (zAba 10 t) 0 []).1 (znfa (zAba 10 t) 0 []).2.1 (znfa (zAba 10 t) 0 []).2.2 := by
 have hm : most = 4294967296 := rfl
 unfold zLba
 show zOma t _ _ = _
 unfold zOma
 simp only [zjaa, beq_self_eq_true, Bool.true_and]
 rw [if_pos (by omega)]
 have h1 := zqka 10 t
 obtain ⟨m, hf⟩ := ztda ((zAba 10 t).length + 1) (by omega)
 rw [hf]
 refine Eq.trans (ztsa (fun w3 w4 w5 => K w3 w4 w5) (fun w6 => K w6 (0 : Int) (0 : Int)) (zAba 10 t) (by omega) (fun x hx => by have := h1.2 x hx; omega) (m + (zAba 10 t).length) 0 [] (by omega) (by omega) (by simp)) ?_
 rw [List.drop_zero]
 exact fin_K K _ (zGoa _ _ _)
noncomputable def PB (kr : List ActT → Int → Int → Option R) (rec : zOaa → Option R) (t : W) (out : List ActT) (line : W) (k1 i : Int) : Option R :=
 (let v31 := decide (k1 > (256 : Int))
 cond v31
 (kr ([] : List ((Int) × It3)) (4 : Int) k1)
 (let v32 := ((List.length line : Nat) : Int)
 let v33 := decide (v32 > (512 : Int))
 cond v33
 (kr ([] : List ((Int) × It3)) (4 : Int) k1)
 (zQca line fun r34 =>
 let v35 := ((List.length r34 : Nat) : Int)
 let v36 := decide (v35 > (0 : Int))
 cond v36
 (cond (inB (0 : Int) (List.length r34))
 (let v37 := (List.getD r34 (0 : Int).toNat ([] : List UInt8))
 cond (inB (0 : Int) (List.length v37))
 (let v38 := bt v37 (0 : Int)
 let v39 := v38 != (35 : Int)
 cond v39
 (zoaa r34 fun r40 r41 =>
 let v42 := !r41
 cond v42
 (kr ([] : List ((Int) × It3)) (2 : Int) k1)
 (let v43 := List.set (List.replicate 1 ((0 : Int), (([] : List (Int)), (((0 : Int), (false, ((0 : Int), ((0 : Int), (false, ((0 : Int), ())))))), ((false, (false, (([] : List (Int)), ((0 : Int), (([] : List (Int)), ()))))), (([] : List UInt8), (([] : List (Int)), ((0 : Int), ((0 : Int), ((0 : Int), ())))))))))) 0 r40
 cond (decide (List.length out + List.length v43 ≤ most))
 (let v44 := out ++ v43
 let v45 := IntKind.i64.wrap (k1 + (1 : Int))
 let v46 := IntKind.i64.wrap (i + (1 : Int))
 rec ⟨t, v44, ([] : List UInt8), v45, v46⟩) none))
 (let v47 := IntKind.i64.wrap (k1 + (1 : Int))
 let v48 := IntKind.i64.wrap (i + (1 : Int))
 rec ⟨t, out, ([] : List UInt8), v47, v48⟩)) none) none)
 (let v49 := IntKind.i64.wrap (k1 + (1 : Int))
 let v50 := IntKind.i64.wrap (i + (1 : Int))
 rec ⟨t, out, ([] : List UInt8), v49, v50⟩))))
theorem zeta (kr : List ActT → Int → Int → Option R) (kx : List ActT → Option R) (rec : zOaa → Option R) (t : W) (out : List ActT) (line : W) (k1 i : Int) :
  zbba kr kx rec ⟨t, out, line, k1, i⟩ = cond (decide (i ≤ ((t.length : Nat) : Int))) (cond (decide (i < ((t.length : Nat) : Int))) (cond (inB i t.length) (cond (bt t i != (10 : Int)) (let v7 := IntKind.i64.wrap (i + (1 : Int)); cond (inR i v7 t.length) (cond (decide (line.length + (rng t i v7).length ≤ most)) (rec ⟨t, out, line ++ rng t i v7, k1, v7⟩) none) none) (PB kr rec t out line k1 i)) none) (PB kr rec t out line k1 i)) (kx out) := rfl
theorem pb_eq (kr : List ActT → Int → Int → Option R) (rec : zOaa → Option R) (t : W) (out : List ActT) (line : W) (k i : Nat) (hl : line.length ≤ 2147483648) (hk : k ≤ 2147483648) (hi : i ≤ 2147483648) (ho : out.length ≤ k) :
  PB kr rec t out line ((k + 1 : Nat) : Int) (i : Int) = lineK kr (fun o => rec ⟨t, o, [], ((k + 2 : Nat) : Int), ((i + 1 : Nat) : Int)⟩) line k out := by
 have hm : most = 4294967296 := rfl
 unfold PB lineK
 simp only [zjaa, zVaa, znha, zlja, zBfa]
 rw [w_i64 (n := (((k + 1 : Nat) : Int) + 1)) (by omega), w_i64 (n := ((i : Int) + 1)) (by omega), show (((k + 1 : Nat) : Int) + 1) = ((k + 2 : Nat) : Int) by omega, show (i : Int) + 1 = ((i + 1 : Nat) : Int) by omega]
 by_cases c1 : 256 ≤ k
 ·rw [if_pos (by omega), if_pos (.inl c1)]
 rw [if_neg (by omega)]
 by_cases c2 : 512 < line.length
 ·rw [if_pos (by omega), if_pos (.inr c2)]
 rw [if_neg (by omega), if_neg (by omega), zKua line (by omega)]
 have hw := zdla (l := line) (by omega)
 have hw2 := (zvea line []).1
 unfold lineA
 cases hq : zlca [] line with
 | nil => rfl
 | cons w ws =>
  rw [hq] at hw hw2
  have hw1 := (hw w List.mem_cons_self).1
  have hw0 : 0 < w.length := by cases w; exact absurd rfl hw1; simp
  rw [if_pos (by simp only [List.length_cons]; omega), if_pos (by simp only [List.length_cons]; omega)]
  show (if 0 ≤ (0 : Int) ∧ (0 : Int) < ((w.length : Nat) : Int) then _ else none) = _
  rw [if_pos (by omega)]
  show (if bt w (0 : Int) = (35 : Int) then _ else _) = _
  by_cases hb : w.head? = some 35
  ·rw [if_pos ((zcra w hw1).2 hb)]
   simp only [if_pos hb]
  rw [if_neg (fun e => hb ((zcra w hw1).1 e))]
  simp only [if_neg hb]
  obtain ⟨v, b, e1, e2⟩ := zHwa (R := R) w ws (fun x hx => hw x (List.mem_cons_of_mem _ hx)) (by simp only [List.length_cons, List.length_nil] at hw2 ⊢; omega) (fun r16 r17 => if r17 = true then (if out.length + (List.set (List.replicate 1 a0) 0 r16).length ≤ most then rec ⟨t, out ++ List.set (List.replicate 1 a0) 0 r16, [], ((k + 2 : Nat) : Int), ((i + 1 : Nat) : Int)⟩ else none) else kr [] 2 ((k + 1 : Nat) : Int))
  refine Eq.trans (Eq.trans ?_ e1) ?_
  ·congr 1
   funext x y
   cases y <;> rfl
  ·rw [e2]
   cases b with
   | false => rfl
   | true =>
    simp only [if_true]
    rw [if_pos (by simp only [List.length_set, List.length_replicate]; omega)]
    rfl
theorem zura (kr : List ActT → Int → Int → Option R) (kx : List ActT → Option R) (t : W) (ht : t.length ≤ 1073741824) : ∀ (n i k : Nat) (out : List ActT) (line : W), t.length ≤ i + n → i ≤ t.length → out.length ≤ k → k ≤ i → line.length ≤ i →
  loopN (zbba kr kx) (n + 2) ⟨t, out, line, ((k + 1 : Nat) : Int), (i : Int)⟩ = fin kr kx (znfa (zXna line (t.drop i)) k out) := by
 have hm : most = 4294967296 := rfl
 have hend : ∀ (n i k : Nat) (out : List ActT) (line : W), i = t.length → out.length ≤ k → k ≤ i → line.length ≤ i → loopN (zbba kr kx) (n + 2) ⟨t, out, line, ((k + 1 : Nat) : Int), (i : Int)⟩ = fin kr kx (znfa (zXna line (t.drop i)) k out) := by
  intro n i k out line hi h3 h4 h5
  have hstop : ∀ o, loopN (zbba kr kx) (n + 1) ⟨t, o, [], ((k + 2 : Nat) : Int), ((i + 1 : Nat) : Int)⟩ = kx o := by
   intro o
   rw [zqaa, zeta]
   simp only [zjaa]
   rw [if_neg (by omega)]
  rw [zqaa]
  generalize loopN (zbba kr kx) (n + 1) = rec at hstop ⊢
  rw [zeta]
  simp only [zjaa]
  rw [if_pos (by omega), if_neg (by omega), pb_eq _ _ _ _ _ _ _ (by omega) (by omega) (by omega) h3, List.drop_of_length_le (by omega)]
  unfold zXna
  rw [zvqa]
  simp only [hstop]
  rfl
 intro n
 induction n with
 | zero => intro i k out line h1 h2 h3 h4 h5; exact hend 0 i k out line (by omega) h3 h4 h5
 | succ n ih =>
  intro i k out line h1 h2 h3 h4 h5
  by_cases hi : i < t.length
  case neg => exact hend (n + 1) i k out line (by omega) h3 h4 h5
  rw [zqaa]
  generalize loopN (zbba kr kx) (n + 2) = rec at ih ⊢
  rw [zeta]
  simp only [zjaa, zVaa, zjka, znha]
  rw [if_pos (by omega), if_pos (by omega), if_pos (by omega), pb_eq _ _ _ _ _ _ _ (by omega) (by omega) (by omega) h3, w_i64 (by omega), show (i : Int) + 1 = ((i + 1 : Nat) : Int) by omega, bt_at, zmua t i hi, ziea t i 0 hi]
  generalize t.getD i 0 = b
  conv => rhs; unfold zXna
  by_cases hb : b = 10
  ·subst hb
   rw [if_pos (by rfl), if_pos rfl, zvqa]
   refine zqoa h3 fun o ho => ?_
   exact ih (i + 1) (k + 1) o [] (by omega) (by omega) ho (by omega) (by simp)
  ·rw [if_neg (fun hc => hb (UInt8.toNat_inj.1 (by show b.toNat = 10; omega))), if_neg hb, if_pos ⟨by omega, by omega, by omega⟩, if_pos (by simp only [List.length_cons, List.length_nil]; omega)]
   rw [ih (i + 1) k out _ (by omega) (by omega) (by omega) (by omega) (by simp only [List.length_append, List.length_cons, List.length_nil]; omega)]
theorem zsta (t : W) (ht : t.length ≤ 1073741824) (K : List ActT → Int → Int → Option R) : zQfa t K = K (znfa (zAba 10 t) 0 []).1 (znfa (zAba 10 t) 0 []).2.1 (znfa (zAba 10 t) 0 []).2.2 := by
 unfold zQfa
 obtain ⟨m, hf⟩ := ztda (t.length + 2) (by omega)
 rw [hf]
 refine Eq.trans (zura (fun w1 w2 w3 => K w1 w2 w3) (fun w4 => K w4 (0 : Int) (0 : Int)) t ht (m + t.length) 0 0 [] [] (by omega) (by omega) (by simp) (by simp) (by simp)) ?_
 rw [List.drop_zero, ztva]
 exact fin_K K _ (zGoa _ _ _)
end
end Go.Trm.G1
namespace Go.Trm.G1
abbrev Sz (ws : List W) : Prop := small ws ∧ ws.length ≤ most
def Po {α : Type} (P : PS α) (φ : α → Prop) : Prop := ∀ ws x r, Sz ws → P ws = some (x, r) → φ x ∧ Sz r
theorem Po.bind {α β : Type} {P : PS α} {Q : α → PS β} {φ : α → Prop} {ψ : β → Prop} (h : Po P φ) (k : ∀ x, φ x → Po (Q x) ψ) : Po (bindP P Q) ψ := by
 intro ws y r hs e
 unfold bindP at e
 cases hp : P ws with
 | none => rw [hp] at e; cases e
 | some q =>
  obtain ⟨x, r'⟩ := q
  rw [hp] at e
  obtain ⟨h1, h2⟩ := h ws x r' hs hp
  exact k x h1 r' y r h2 e
theorem Po.ret {α : Type} {x : α} {φ : α → Prop} (h : φ x) : Po (retP x) φ := by
 intro ws y r hs e
 cases e
 exact ⟨h, hs⟩
theorem Po.ite {α : Type} {P Q : PS α} {φ : α → Prop} (c : Bool) (h : Po P φ) (k : Po Q φ) : Po (cond c P Q) φ := by cases c <;> assumption
theorem zUra {w : W} {ws : List W} (h : Sz (w :: ws)) : Sz ws := ⟨fun x hx => h.1 x (List.mem_cons_of_mem _ hx), by have := h.2; simp only [List.length_cons] at this; omega⟩
theorem Po.word {α : Type} {p : W → Option α} {φ : α → Prop} (h : ∀ w x, w.length ≤ most → p w = some x → φ x) : Po (wordP p) φ := by
 intro ws y r hs e
 cases ws with
 | nil => simp [wordP] at e
 | cons w ws =>
  rw [zEaa] at e
  cases hp : p w with
  | none => rw [hp] at e; cases e
  | some x =>
   rw [hp] at e
   cases e
   exact ⟨h w y (hs.1 w List.mem_cons_self).2 hp, zUra hs⟩
theorem Po.is (w : W) : Po (isP w) (fun _ => True) := by
 intro ws y r hs e
 rw [zPma] at e
 have e1 := congrArg Prod.snd (Option.some.inj e)
 simp only at e1
 rw [← e1]
 exact ⟨trivial, zfla hs.1, Nat.le_trans (zwoa w ws) hs.2⟩
theorem zPsa : ∀ (l : W) (z : List Int), hexs l = some z → z.length ≤ l.length
 | [], z, h => by
  simp [hexs] at h; subst h; simp
 | [a], z, h => by simp [hexs] at h
 | a :: b :: l, z, h => by
  rw [zSma] at h
  cases h1 : hexD a with
  | none => rw [h1] at h; cases h
  | some x =>
   cases h2 : hexD b with
   | none => rw [h1, h2] at h; cases h
   | some y =>
    cases h3 : hexs l with
    | none => rw [h1, h2, h3] at h; cases h
    | some m =>
     rw [h1, h2, h3] at h
     have := zPsa l m h3
     cases h
     simp only [List.length_cons]; omega
theorem zDva (w : W) (z : List Int) (hw : w.length ≤ most) (h : hexW w = some z) : z.length ≤ most := by
 unfold hexW at h
 split at h
 ·cases h
 ·have := zPsa w z h; omega
theorem zSra : ∀ (ws : List W) (x : List Int) (r : List W), Sz ws → valsP ws = some (x, r) → Sz r
 | [], x, r, hs, e => by
  simp [valsP] at e
  obtain ⟨rfl, rfl⟩ := e
  exact hs
 | w :: ws, x, r, hs, e => by
  unfold valsP at e
  split at e
  ·split at e
   ·rename_i n l r' h1 h2
    cases e
    exact zSra ws l r (zUra hs) h2
   ·cases e
  ·cases e
   exact hs
theorem Po.values : Po zwga (fun l => l.length ≤ 8) := by
 intro ws x r hs e
 unfold zwga at e
 cases hp : valsP ws with
 | none => rw [hp] at e; cases e
 | some q =>
  obtain ⟨y, r'⟩ := q
  rw [hp] at e
  simp only at e
  split at e
  ·cases e
  ·cases e
   exact ⟨by omega, zSra ws _ _ hs hp⟩
theorem Po.ne (l : List Int) : Po (neP l) (fun x => x = l) := by
 intro ws x r hs e
 unfold neP at e
 split at e
 ·cases e
 ·cases e; exact ⟨rfl, hs⟩
theorem Po.mono {α : Type} {P : PS α} {φ ψ : α → Prop} (h : Po P φ) (k : ∀ x, φ x → ψ x) : Po P ψ := fun ws x r hs e => ⟨k x (h ws x r hs e).1, (h ws x r hs e).2⟩
def okC (c : zYaa) : Prop := c.2.2.1.length ≤ most ∧ c.2.2.2.2.1.length ≤ most
def okA (a : ActT) : Prop := a.2.1.length ≤ most ∧ okC a.2.2.2.1 ∧ a.2.2.2.2.2.1.length ≤ most
theorem zMxa : (0 : Nat) ≤ most := Nat.zero_le _
theorem zBea : ([] : List Int).length ≤ most := Nat.zero_le _
theorem Po.any {α : Type} {p : W → Option α} : Po (wordP p) (fun _ => True) := Po.word fun _ _ _ _ => trivial
theorem Po.hex : Po (wordP hexW) (fun l => l.length ≤ most) := Po.word zDva
theorem Po.size : Po sizeP (fun _ => True) := Po.any.bind fun _ _ => (Po.is _).bind fun _ _ => .ite _ (Po.any.bind fun _ _ => .ret trivial) (.ret trivial)
theorem Po.given : Po zNka (fun _ => True) := (Po.is _).bind fun _ _ => .ite _ Po.size ((Po.is _).bind fun _ _ => .ite _ Po.size ((Po.is _).bind fun _ _ => Po.any.bind fun _ _ => Po.any.bind fun _ _ => .ret trivial))
theorem Po.choice : Po zfma okC := (Po.is _).bind fun _ _ => (Po.is _).bind fun _ _ => (Po.is _).bind fun v _ =>
 Po.bind (φ := fun l => l.length ≤ most) (.ite v (Po.values.bind fun l hl => (Po.ne l).mono fun x e => by subst e; show x.length ≤ 4294967296; omega) (.ret zBea)) fun l hl =>
  (Po.is _).bind fun k _ => .ite k (Po.any.bind fun _ _ => Po.hex.bind fun _ hh => .ret ⟨hl, hh⟩) (.ret ⟨hl, zBea⟩)
theorem Po.act (w : W) : Po (actP w) okA := by
 unfold actP
 split
 ·exact Po.hex.bind fun _ h => .ret ⟨h, ⟨zBea, zBea⟩, zBea⟩
 split
 ·exact Po.given.bind fun _ _ => .ret ⟨zBea, ⟨zBea, zBea⟩, zBea⟩
 split
 ·exact Po.choice.bind fun _ h => .ret ⟨zBea, h, zBea⟩
 split
 ·exact Po.any.bind fun _ _ => .ret ⟨zBea, ⟨zBea, zBea⟩, zBea⟩
 split
 ·exact Po.any.bind fun _ _ => Po.any.bind fun _ _ => Po.values.bind fun l h => .ret ⟨zBea, ⟨zBea, zBea⟩, by show l.length ≤ 4294967296; omega⟩
 split
 ·exact Po.any.bind fun _ _ => .ret ⟨zBea, ⟨zBea, zBea⟩, zBea⟩
 split
 ·exact Po.any.bind fun _ _ => Po.any.bind fun _ _ => .ret ⟨zBea, ⟨zBea, zBea⟩, zBea⟩
 ·intro ws x r _ e; cases e
theorem zsxa {ws : List W} {a : ActT} (hs : Sz ws) (h : actE ws = some a) : okA a := by
 cases ws with
 | nil => cases h
 | cons w ws =>
  have h' : endP (actP w ws) = some a := h
  cases e : actP w ws with
  | none => rw [e] at h'; cases h'
  | some q =>
   obtain ⟨x, r⟩ := q
   rw [e] at h'
   cases r with
   | cons y z => cases h'
   | nil =>
    cases h'
    exact (Po.act w ws a [] (zUra hs) e).1
theorem zuva {l : W} {a : ActT} (hl : l.length ≤ most) (h : lineA l = .act a) : okA a := by
 have hw := zdla hl
 have hw2 := (zvea l []).1
 unfold lineA at h
 split at h
 ·cases h
 ·rename_i w ws e
  split at h
  ·cases h
  ·split at h
   ·cases h
   ·rename_i x e2
    cases h
    refine zsxa ⟨?_, ?_⟩ e2
    ·rw [← e]; exact hw
    ·rw [← e]; simp only [List.length_nil] at hw2; omega
theorem zHoa : ∀ (ls : List W) (k : Nat) (out : List ActT), (∀ x ∈ ls, x.length ≤ most) → (∀ a ∈ out, okA a) → out.length ≤ k → (∀ a ∈ (znfa ls k out).1, okA a) ∧ (znfa ls k out).1.length ≤ k + ls.length
 | [], k, out, _, ho, hk => ⟨ho, by simpa [znfa] using hk⟩
 | l :: ls, k, out, hl, ho, hk => by
  have hl' : ∀ x ∈ ls, x.length ≤ most := fun x hx => hl x (List.mem_cons_of_mem _ hx)
  unfold znfa
  split
  ·exact ⟨fun a ha => (by cases ha), by simp⟩
  ·split
   ·have := zHoa ls (k + 1) out hl' ho (by omega)
    exact ⟨this.1, by have := this.2; simp only [List.length_cons]; omega⟩
   ·exact ⟨fun a ha => (by cases ha), by simp⟩
   ·rename_i a e
    have := zHoa ls (k + 1) (out ++ [a]) hl' (fun x hx => by
     rcases List.mem_append.1 hx with hx | hx
     ·exact ho x hx
     ·rw [List.mem_singleton] at hx; subst hx; exact zuva (hl l List.mem_cons_self) e) (by simp only [List.length_append, List.length_cons, List.length_nil]; omega)
    exact ⟨this.1, by have := this.2; simp only [List.length_cons]; omega⟩
def zBta (t : W) : znra := znfa (zAba 10 t) 0 []
theorem zAta {t : W} (ht : t.length ≤ 2147483648) : (∀ a ∈ (zBta t).1, okA a) ∧ (zBta t).1.length ≤ most := by
 have hm : most = 4294967296 := rfl
 have h1 := zqka 10 t
 have := zHoa (zAba 10 t) 0 [] (fun x hx => by have := h1.2 x hx; omega) (fun a ha => by cases ha) (by simp)
 exact ⟨this.1, by have h2 := this.2; unfold zBta; omega⟩
section
variable {R : Type}
theorem zsra (kr : Bool → Option R) (kx : Option R) (l : List Int) (hl : l.length ≤ most) : ∀ (n i : Nat), l.length ≤ i + n → i ≤ l.length → loopN (ztca kr kx) (n + 1) ⟨l, l, (i : Int)⟩ = kx := by
 have hm : most = 4294967296 := rfl
 intro n
 induction n with
 | zero =>
  intro i h1 h2
  rw [zqaa]
  unfold ztca
  simp only [zjaa]
  rw [if_neg (by omega)]
 | succ n ih =>
  intro i h1 h2
  rw [zqaa]
  generalize loopN (ztca kr kx) (n + 1) = rec at ih ⊢
  unfold ztca
  simp only [zjaa, zVaa, znha]
  by_cases hi : i < l.length
  ·rw [if_pos (by omega), if_pos (by omega), if_pos (by omega), if_pos trivial, w_i64 (by omega), show (i : Int) + 1 = ((i + 1 : Nat) : Int) by omega]
   exact ih (i + 1) (by omega) (by omega)
  ·rw [if_neg (by omega)]
theorem zpta (l : List Int) (hl : l.length ≤ most) (K : Bool → Option R) : zvha l l K = K true := by
 have hm : most = 4294967296 := rfl
 unfold zvha
 simp only [bne_self_eq_false, cond_false]
 obtain ⟨m, hf⟩ := ztda (l.length + 1) (by omega)
 rw [hf]
 exact zsra (fun w4 => K w4) (K true) l hl (m + l.length) 0 (by omega) (by omega)
theorem zrra (kr : Bool → Option R) (kx : Option R) (l : List Int) (hl : l.length ≤ most) : ∀ (n i : Nat), l.length ≤ i + n → i ≤ l.length → loopN (zLaa kr kx) (n + 1) ⟨l, l, (i : Int)⟩ = kx := by
 have hm : most = 4294967296 := rfl
 intro n
 induction n with
 | zero =>
  intro i h1 h2
  rw [zqaa]
  unfold zLaa
  simp only [zjaa]
  rw [if_neg (by omega)]
 | succ n ih =>
  intro i h1 h2
  rw [zqaa]
  generalize loopN (zLaa kr kx) (n + 1) = rec at ih ⊢
  unfold zLaa
  simp only [zjaa, zVaa, znha]
  by_cases hi : i < l.length
  ·rw [if_pos (by omega), if_pos (by omega), if_pos (by omega), if_pos trivial, w_i64 (by omega), show (i : Int) + 1 = ((i + 1 : Nat) : Int) by omega]
   exact ih (i + 1) (by omega) (by omega)
  ·rw [if_neg (by omega)]
theorem zIqa (l : List Int) (hl : l.length ≤ most) (K : Bool → Option R) : zvba l l K = K true := by
 have hm : most = 4294967296 := rfl
 unfold zvba
 simp only [bne_self_eq_false, cond_false]
 obtain ⟨m, hf⟩ := ztda (l.length + 1) (by omega)
 rw [hf]
 exact zrra (fun w4 => K w4) (K true) l hl (m + l.length) 0 (by omega) (by omega)
theorem zqra (c : zYaa) (h : okC c) (K : Bool → Option R) : zoca c c K = K true := by
 unfold zoca
 simp only [beq_self_eq_true, cond_true]
 rw [zIqa _ h.1]
 rfl
theorem zSua (a : ActT) (h : okA a) (K : Bool → Option R) : zuha a a K = K true := by
 unfold zuha
 simp only [beq_self_eq_true, cond_true, Bool.and_true]
 rw [zpta _ h.1]
 simp only [cond_true]
 rw [zqra _ h.2.1]
 simp only [cond_true]
 rw [zIqa _ h.2.2]
 rfl
theorem zVpa (kr : Bool → Option R) (kx : Option R) (l : List ActT) (hl : l.length ≤ most) (ho : ∀ a ∈ l, okA a) : ∀ (n i : Nat), l.length ≤ i + n → i ≤ l.length → loopN (zsba kr kx) (n + 1) ⟨l, l, (i : Int)⟩ = kx := by
 have hm : most = 4294967296 := rfl
 intro n
 induction n with
 | zero =>
  intro i h1 h2
  rw [zqaa]
  unfold zsba
  simp only [zjaa]
  rw [if_neg (by omega)]
 | succ n ih =>
  intro i h1 h2
  rw [zqaa]
  generalize loopN (zsba kr kx) (n + 1) = rec at ih ⊢
  unfold zsba
  simp only [zjaa, zVaa, zlja, Int.toNat_natCast]
  by_cases hi : i < l.length
  ·rw [if_pos (by omega), if_pos (by omega), if_pos (by omega), zSua _ (by rw [List.getD_eq_getElem?_getD, List.getElem?_eq_getElem hi]; exact ho _ (List.getElem_mem hi)), w_i64 (by omega), show (i : Int) + 1 = ((i + 1 : Nat) : Int) by omega]
   exact ih (i + 1) (by omega) (by omega)
  ·rw [if_neg (by omega)]
theorem zbsa (l : List ActT) (hl : l.length ≤ most) (ho : ∀ a ∈ l, okA a) (K : Bool → Option R) : zAca l l K = K true := by
 have hm : most = 4294967296 := rfl
 unfold zAca
 simp only [bne_self_eq_false, cond_false]
 obtain ⟨m, hf⟩ := ztda (l.length + 1) (by omega)
 rw [hf]
 exact zVpa (fun w4 => K w4) (K true) l hl ho (m + l.length) 0 (by omega) (by omega)
theorem zoxa (K : Bool → Option R) : zAea K = K true := by
 unfold zAea
 rw [zusa _ (by decide)]
 rw [show znfa (zAba 10 ([99, 97, 108, 108, 32, 102, 32, 49, 48, 48, 32, 53, 32, 55, 10] : List UInt8)) 0 [] = ([mkA 5 [] zG zC [102] [5, 7] 100 0 0], 0, 0) by kernel_rfl]
 rfl
end
theorem scriptReads_pure (a0 : List UInt8) (h0 : a0.length ≤ 140737488351232) : zdca a0 Yes = some () := by
 unfold zdca
 rw [zoxa]
 simp only [Bool.not_true, cond_false, zjka]
 have hmin : ∃ k : Nat, minI ((a0.length : Nat) : Int) (100000 : Int) = (k : Int) ∧ k ≤ 100000 ∧ k ≤ a0.length := by
  unfold minI
  split
  ·exact ⟨100000, rfl, Nat.le_refl _, by omega⟩
  ·exact ⟨a0.length, rfl, by omega, Nat.le_refl _⟩
 obtain ⟨k, hk, hk1, hk2⟩ := hmin
 rw [hk, if_pos ⟨by omega, by omega, by omega⟩]
 have hl : (rng a0 (0 : Int) (k : Int)).length ≤ 100000 := by
  unfold rng
  simp only [List.length_drop, List.length_take, Int.toNat_natCast]; omega
 generalize rng a0 (0 : Int) (k : Int) = t at hl
 rw [zusa t (by omega), zsta t (by omega)]
 have := zAta (t := t) (by omega)
 unfold zBta at this
 rw [zbsa _ this.2 this.1]
 simp only [cond_true, beq_self_eq_true]
end Go.Trm.G1
