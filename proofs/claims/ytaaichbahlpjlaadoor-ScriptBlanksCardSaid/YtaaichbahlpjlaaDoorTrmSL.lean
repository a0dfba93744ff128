import Derived.Test.YtaaichbahlpjlaaDoorTrmSG
set_option linter.unusedVariables false
set_option linter.unusedSimpArgs false
namespace Go.Trm.G1
def restP (g t : Bool) (l : List Int) : PS zaba := bindP (isP atW) fun k => cond k (bindP (wordP numT) fun n => bindP (wordP hexW) fun h => retP (g, (t, (l, (n, (h, ())))))) (retP (g, (t, (l, (0, ([], ()))))))
def restE (g t : Bool) (l : List Int) : List W → Option zaba
 | [] => some (g, (t, (l, (0, ([], ())))))
 | [a, n, h] => if a = atW then (match numT n, hexW h with
  | some n, some h => some (g, (t, (l, (n, (h, ())))))
  | _, _ => none) else none
 | _ => none
theorem zysa (g t : Bool) (l : List Int) {a : W} (r : List W) (h : a ≠ atW) : restE g t l (a :: r) = none := by
 match r with
 | [] => rfl
 | [_] => rfl
 | [n, x] => simp only [restE, if_neg h]
 | _ :: _ :: _ :: _ => rfl
theorem zmqa (g t : Bool) (l : List Int) (r : List W) : endP (restP g t l r) = restE g t l r := by
 match r with
 | [] => rfl
 | a :: r =>
  by_cases h : a = atW
  ·have e : restP g t l (a :: r) = match wordP numT r with
    | some (n, r') => (match wordP hexW r' with
     | some (h, r'') => some ((g, (t, (l, (n, (h, ()))))), r'')
     | none => none)
    | none => none := by
    simp only [restP, bindP, isP, if_pos h, cond_true]
    cases wordP numT r with
    | none => rfl
    | some q => obtain ⟨n, r'⟩ := q; simp only; cases wordP hexW r' <;> rfl
   rw [e]
   match r with
   | [] => rfl
   | [n] => rw [zFaa]; cases numT n <;> rfl
   | [n, x] =>
    rw [zFaa]
    simp only [restE, if_pos h]
    cases numT n with
    | none => rfl
    | some n => simp only; rw [zFaa]; cases hexW x <;> rfl
   | n :: x :: y :: r =>
    rw [zFaa]
    cases numT n with
    | none => rfl
    | some n => simp only; rw [zFaa]; cases hexW x <;> rfl
  ·rw [zysa g t l r h]
   simp only [restP, bindP, isP, if_neg h, cond_false]
   rfl
abbrev nAt (w : W) : Bool := !(w == atW)
theorem zrwa : digB atW = false := rfl
theorem zDua : ∀ ws : List W, match valsP ws with
  | some (l, r) => ((r = [] ∨ ∃ r', r = atW :: r') → allV (ws.takeWhile nAt) = some l ∧ ws.dropWhile nAt = r) ∧ ((∃ x r', r = x :: r' ∧ x ≠ atW) → allV (ws.takeWhile nAt) = none)
  | none => allV (ws.takeWhile nAt) = none
 | [] => ⟨fun _ => ⟨rfl, rfl⟩, fun ⟨x, r', h, _⟩ => by cases h⟩
 | w :: ws => by
  have ih := zDua ws
  unfold valsP
  cases hd : digB w with
  | false =>
   simp only
   by_cases ha : w = atW
   ·subst ha
    exact ⟨fun _ => ⟨rfl, rfl⟩, fun ⟨x, r', h, hx⟩ => by cases h; exact absurd rfl hx⟩
   ·have hn : nAt w = true := by simpa [nAt] using ha
    refine ⟨fun hr => ?_, fun _ => ?_⟩
    ·rcases hr with hr | ⟨r', hr⟩
     ·cases hr
     ·cases hr; exact absurd rfl ha
    ·rw [List.takeWhile_cons, hn]
     simp only [if_true, allV, zesa hd]
  | true =>
   have ha : w ≠ atW := fun hc => by rw [hc, zrwa] at hd; cases hd
   have hn : nAt w = true := by simpa [nAt] using ha
   have e1 : (w :: ws).takeWhile nAt = w :: ws.takeWhile nAt := by rw [List.takeWhile_cons, hn]; rfl
   have e2 : (w :: ws).dropWhile nAt = ws.dropWhile nAt := by rw [List.dropWhile_cons, hn]; rfl
   rw [e1, e2]
   simp only [allV]
   cases hw : wv w with
   | none => rfl
   | some n =>
    cases hv : valsP ws with
    | none =>
     rw [hv] at ih
     simp only at ih ⊢
     rw [ih]
    | some q =>
     rw [hv] at ih
     obtain ⟨l, r⟩ := q
     simp only at ih ⊢
     refine ⟨fun hr => ?_, fun hr => ?_⟩
     ·obtain ⟨i1, i2⟩ := ih.1 hr
      rw [i1]
      exact ⟨rfl, i2⟩
     ·rw [ih.2 hr]
def giveE (g t : Bool) (ws : List W) : Option zaba := match valsE (ws.takeWhile nAt) with
 | some l => if l = [] then none else restE g t l (ws.dropWhile nAt)
 | none => none
theorem zhwa (g t : Bool) (ws : List W) : endP (bindP (bindP zyga neP) (fun l => restP g t l) ws) = giveE g t ws := by
 have h := zDua ws
 unfold giveE valsE
 simp only [bindP, zyga]
 cases hv : valsP ws with
 | none =>
  rw [hv] at h
  simp only at h ⊢
  rw [h]
  rfl
 | some q =>
  obtain ⟨l, r⟩ := q
  rw [hv] at h
  simp only at h ⊢
  by_cases hr : r = [] ∨ ∃ r', r = atW :: r'
  ·obtain ⟨h1, h2⟩ := h.1 hr
   rw [h1, h2]
   by_cases hl : l.length > 8
   ·simp [hl, endP]
   ·simp only [if_neg hl, neP]
    by_cases h0 : l = []
    ·simp [h0, endP]
    ·simp only [if_neg h0]
     exact zmqa g t l r
  ·have hx : ∃ x r', r = x :: r' ∧ x ≠ atW := by
    cases r with
    | nil => exact absurd (.inl rfl) hr
    | cons x r' => exact ⟨x, r', rfl, fun hc => hr (.inr ⟨r', by rw [hc]⟩)⟩
   rw [h.2 hx]
   obtain ⟨x, r', rfl, hx'⟩ := hx
   by_cases hl : l.length > 8
   ·simp [hl, endP]
   ·simp only [if_neg hl, neP]
    by_cases h0 : l = []
    ·simp [h0, endP]
    ·simp only [if_neg h0]
     exact (zmqa g t l (x :: r')).trans (zysa g t l r' hx')
def strip (w : W) : List W → Bool × List W
 | [] => (false, [])
 | x :: ws => if x = w then (true, ws) else (false, x :: ws)
theorem zSma (w : W) (ws : List W) : isP w ws = some (strip w ws) := by
 cases ws with
 | nil => rfl
 | cons x ws => by_cases h : x = w <;> simp [isP, strip, h]
theorem zxta (ws : List W) : endP (zhma ws) = (let a := strip growW ws; let b := strip trapW a.2; let c := strip giveW b.2; cond c.1 (giveE a.1 b.1 c.2) (restE a.1 b.1 [] c.2)) := by
 have e : zhma ws = (let a := strip growW ws; let b := strip trapW a.2; let c := strip giveW b.2; cond c.1 (bindP (bindP zyga neP) (fun l => restP a.1 b.1 l) c.2) (restP a.1 b.1 [] c.2)) := by
  simp only [zhma]
  rw [bindP, zSma]
  simp only
  rw [bindP, zSma]
  simp only
  rw [bindP, zSma]
  simp only [zGxa]
  cases (strip giveW (strip trapW (strip growW ws).2).2).1 <;> rfl
 rw [e]
 simp only
 cases (strip giveW (strip trapW (strip growW ws).2).2).1 with
 | true => exact zhwa _ _ _
 | false => exact zmqa _ _ _ _
section
variable {R : Type}
abbrev gc (g t : Bool) (l : List Int) : zaba := (g, (t, (l, ((0 : Int), (([] : List (Int)), ())))))
noncomputable abbrev T21 (r : List W) (c : zaba) (K : zaba → Bool → Option R) : Option R :=
 let v12 := ((List.length r : Nat) : Int)
 let v13 := v12 == (0 : Int)
 cond v13
 (K c true)
 (zRca (fun w14 w15 =>
 K w14 w15) (fun w16 w17 w18 =>
 cond (inB (1 : Int) (List.length w16))
 (let v19 := List.getD w16 (1 : Int).toNat ([] : List UInt8)
 zaaa v19 fun r20 r21 =>
 cond (inB (2 : Int) (List.length w16))
 (let v22 := List.getD w16 (2 : Int).toNat ([] : List UInt8)
 zBba v22 fun r23 r24 =>
 cond r21
 (K (w18.1, (w18.2.1, (w18.2.2.1, (r20, (r23, w18.2.2.2.2.2))))) r24)
 (K (w18.1, (w18.2.1, (w18.2.2.1, (r20, (r23, w18.2.2.2.2.2))))) false)) none) none) ⟨r, zC, c⟩)
theorem zQwa (r : List W) (hs : small r) (g t : Bool) (l : List Int) : Is (R := R) (fun K => T21 r (gc g t l) K) (restE g t l r) := by
 intro K
 show ∃ v b, T21 r (gc g t l) K = K v b ∧ _
 match r, hs with
 | [], _ => exact ⟨_, true, rfl, rfl⟩
 | [_], _ => exact ⟨_, false, rfl, rfl⟩
 | [_, _], _ => exact ⟨_, false, rfl, rfl⟩
 | [a, n, x], hs =>
  by_cases h : a = atW
  ·subst h
   obtain ⟨y, b, e1, e2⟩ := znca (R := R) n (fun r20 r21 => zBba x fun r23 r24 => cond r21 (K (g, (t, (l, (r20, (r23, ()))))) r24) (K (g, (t, (l, (r20, (r23, ()))))) false))
   obtain ⟨z, c, e3, e4⟩ := zbra (R := R) x (hs x (by simp)).2 (fun r23 r24 => cond b (K (g, (t, (l, (y, (r23, ()))))) r24) (K (g, (t, (l, (y, (r23, ()))))) false))
   refine ⟨(g, (t, (l, (y, (z, ()))))), b && c, ?_, ?_⟩
   ·refine Eq.trans (b := zaaa n (fun r20 r21 => zBba x fun r23 r24 => cond r21 (K (g, (t, (l, (r20, (r23, ()))))) r24) (K (g, (t, (l, (r20, (r23, ()))))) false))) rfl ?_
    refine e1.trans (e3.trans ?_)
    cases b <;> rfl
   ·simp only [restE, if_true, e2, e4]
    cases b <;> cases c <;> rfl
  ·have f : (a == ([97, 116] : List UInt8)) = false := by simpa using h
   refine ⟨gc g t l, false, ?_, by rw [zysa g t l _ h]; rfl⟩
   show (cond (!(a == ([97, 116] : List UInt8))) (K (gc g t l) false) _) = _
   rw [f]; rfl
 | a :: n :: x :: y :: r, _ =>
  refine ⟨gc g t l, false, ?_, rfl⟩
  unfold T21 zRca
  simp only [zpha, zdfa]
  rw [if_neg (by simp only [List.length_cons]; omega), if_neg (by simp only [List.length_cons]; omega)]
theorem zKxa (kx : List W → zaba → zaba → Int → Option R) (ws : List W) (hl : ws.length ≤ most) (z c : zaba) : ∀ (n i : Nat), ws.length ≤ i + n → i ≤ ws.length →
  loopN (zyba kx) (n + 1) ⟨ws, z, c, (i : Int)⟩ = kx ws z c ((i + ((ws.drop i).takeWhile nAt).length : Nat) : Int) := by
 have hm : most = 4294967296 := rfl
 intro n
 induction n with
 | zero =>
  intro i h1 h2
  rw [znaa]
  unfold zyba zSca
  simp only [zgaa]
  rw [if_neg (by omega), List.drop_of_length_le (by omega)]
  rfl
 | succ n ih =>
  intro i h1 h2
  rw [znaa]
  generalize loopN (zyba kx) (n + 1) = rec at ih ⊢
  unfold zyba zSca
  by_cases hi : i < ws.length
  ·simp only [Int.toNat_natCast]
   simp only [zgaa, zOaa]
   rw [if_pos (by omega), if_pos ⟨by omega, by omega⟩, zFda ws i [] hi, List.takeWhile_cons]
   generalize ws.getD i [] = w
   have e : nAt w = !(w == ([97, 116] : List UInt8)) := rfl
   rw [e]
   cases (w == ([97, 116] : List UInt8)) with
   | true => rfl
   | false =>
    simp only [Bool.not_false, cond_true, if_true]
    rw [w_i64 (by omega), show (i : Int) + 1 = ((i + 1 : Nat) : Int) by omega, ih (i + 1) (by omega) (by omega)]
    congr 2
    simp only [List.length_cons]
    omega
  ·simp only [zgaa]
   rw [if_neg (by omega), List.drop_of_length_le (by omega)]
   rfl
theorem zPpa (ws : List W) : ws.drop (ws.takeWhile nAt).length = ws.dropWhile nAt :=
 (congrArg (fun l => l.drop (ws.takeWhile nAt).length) (List.takeWhile_append_dropWhile (p := nAt) (l := ws)).symm).trans (List.drop_left ..)
theorem zjpa (ws : List W) : ws.take (ws.takeWhile nAt).length = ws.takeWhile nAt :=
 (congrArg (fun l => l.take (ws.takeWhile nAt).length) (List.takeWhile_append_dropWhile (p := nAt) (l := ws)).symm).trans (List.take_left ..)
theorem zdqa (ws : List W) : (ws.takeWhile nAt).length ≤ ws.length := by
 have := congrArg List.length (List.takeWhile_append_dropWhile (p := nAt) (l := ws))
 rw [List.length_append] at this
 omega
theorem zOpa {ws : List W} {w : W} (h : w ∈ ws.dropWhile nAt) : w ∈ ws := by
 rw [← List.takeWhile_append_dropWhile (p := nAt) (l := ws)]
 exact List.mem_append_right _ h
theorem zhla {w : W} {ws : List W} (h : small ws) : small (strip w ws).2 := by
 cases ws with
 | nil => exact h
 | cons x ws =>
  by_cases hx : x = w
  ·simp only [strip, if_pos hx]; exact fun y hy => h y (List.mem_cons_of_mem _ hy)
  ·simp only [strip, if_neg hx]; exact h
theorem zCoa (w : W) (ws : List W) : (strip w ws).2.length ≤ ws.length := by
 cases ws with
 | nil => exact Nat.le_refl _
 | cons x ws =>
  by_cases hx : x = w
  ·simp [strip, hx]
  ·simp [strip, hx]
theorem j5_eq (ws : List W) (k : List W → zaba → zaba → Option R) (z c : zaba) : zUda k ⟨ws, z, c⟩ = k (strip growW ws).2 z (cond (strip growW ws).1 (true, c.2) c) := by
 unfold zUda
 cases ws with
 | nil => rfl
 | cons x ws =>
  simp only [show (0 : Int).toNat = 0 from rfl, List.getD_cons_zero, zola]
  simp only [zgaa, zOaa, zpja, zdfa]
  rw [if_pos (by simp only [List.length_cons]; omega), if_pos (by simp only [List.length_cons]; omega)]
  unfold strip
  by_cases h : x = growW
  ·simp only [if_pos h]
   rw [if_pos (by simp only [List.length_cons]; omega)]
   rfl
  ·simp only [if_neg h]
   rfl
theorem j8_eq (ws : List W) (k : List W → zaba → zaba → Option R) (z c : zaba) : zTda k ⟨ws, z, c⟩ = k (strip trapW ws).2 z (cond (strip trapW ws).1 (c.1, (true, c.2.2)) c) := by
 unfold zTda
 cases ws with
 | nil => rfl
 | cons x ws =>
  simp only [show (0 : Int).toNat = 0 from rfl, List.getD_cons_zero, zola]
  simp only [zgaa, zOaa, zpja, zdfa]
  rw [if_pos (by simp only [List.length_cons]; omega), if_pos (by simp only [List.length_cons]; omega)]
  unfold strip
  by_cases h : x = trapW
  ·simp only [if_pos h]
   rw [if_pos (by simp only [List.length_cons]; omega)]
   rfl
  ·simp only [if_neg h]
   rfl
theorem zHxa (ws : List W) (hs : small ws) (hl : ws.length + 1 ≤ most) (g t : Bool) (K : zaba → Bool → Option R) :
  ∃ v b, zxba (fun w7 w8 => K w7 w8) (fun w9 _ w11 => T21 w9 w11 K) ⟨giveW :: ws, zC, gc g t []⟩ = K v b ∧ giveE g t ws = if b = true then some v else none := by
 have hm : most = 4294967296 := rfl
 unfold zxba
 simp only [show (0 : Int).toNat = 0 from rfl, List.getD_cons_zero]
 rw [show (giveW == ([103, 105, 118, 101] : List UInt8)) = true from rfl]
 rw [show decide (((List.length (giveW :: ws) : Nat) : Int) > 0) = true by simp only [List.length_cons, decide_eq_true_eq]; omega]
 rw [show inB (0 : Int) (List.length (giveW :: ws)) = true by unfold inB; simp only [List.length_cons, Bool.and_eq_true, decide_eq_true_eq]; omega]
 simp only [cond_true]
 obtain ⟨m, hf⟩ := zTca ((giveW :: ws).length + 1) (by simp only [List.length_cons]; omega)
 rw [hf]
 have hk := zdqa ws
 generalize hkx : (fun w5 w6 w7 w8 => _ : List W → zaba → zaba → Int → Option R) = kx
 have hloop := zKxa (R := R) kx (giveW :: ws) (by simpa using hl) zC (gc g t []) (m + (giveW :: ws).length) 1 (by simp only [List.length_cons]; omega) (by simp only [List.length_cons]; omega)
 rw [show ((1 : Nat) : Int) = (1 : Int) from rfl] at hloop
 rw [← Nat.add_assoc, hloop, List.drop_succ_cons, List.drop_zero, ← hkx]
 simp only [zpja]
 rw [if_pos (by simp only [List.length_cons]; omega)]
 have e1 : rng (giveW :: ws) (1 : Int) ((1 + (ws.takeWhile nAt).length : Nat) : Int) = ws.takeWhile nAt := by
  simp only [rng, Int.toNat_natCast]
  rw [Nat.add_comm, List.take_succ_cons, zjpa]
  rfl
 rw [e1]
 have key : ∀ (k2 : List Int → Bool → Option R), (∀ l b, valsE (ws.takeWhile nAt) = (if b = true then some l else none) → ∃ v b', k2 l b = K v b' ∧ giveE g t ws = if b' = true then some v else none) → ∃ v b', zPaa (ws.takeWhile nAt) k2 = K v b' ∧ giveE g t ws = if b' = true then some v else none := by
  intro k2 h
  obtain ⟨l, b, e2, e3⟩ := zmpa (R := R) (ws.takeWhile nAt) (by omega) k2
  obtain ⟨v, b', h1, h2⟩ := h l b e3
  exact ⟨v, b', e2.trans h1, h2⟩
 refine key _ fun l b e3 => ?_
 unfold zYea
 unfold giveE
 rw [e3]
 cases b with
 | false => exact ⟨_, false, rfl, rfl⟩
 | true =>
  simp only [Bool.not_true, cond_false, if_true]
  simp only [zdfa]
  by_cases h0 : l = []
  ·subst h0
   exact ⟨_, false, rfl, rfl⟩
  ·have : 0 < l.length := by cases l <;> simp at h0 ⊢
   rw [if_neg (by omega), if_neg h0, if_pos (by simp only [List.length_cons]; omega)]
   have e4 : rng (giveW :: ws) ((1 + (ws.takeWhile nAt).length : Nat) : Int) ((List.length (giveW :: ws) : Nat) : Int) = ws.dropWhile nAt := by
    simp only [rng, Int.toNat_natCast, List.take_length]
    rw [Nat.add_comm, List.drop_succ_cons, zPpa]
   rw [e4]
   exact zQwa (ws.dropWhile nAt) (fun w hw => hs w (zOpa hw)) g t l K
theorem zHsa (ws : List W) (hs : small ws) (hl : ws.length ≤ most) : Is (R := R) (fun K => zvca ws K) (endP (zhma ws)) := by
 intro K
 show ∃ v b, zvca ws K = K v b ∧ _
 rw [zxta]
 unfold zvca
 rw [j5_eq, j8_eq]
 have h1 := zhla (w := growW) hs
 have h2 := zhla (w := trapW) h1
 have l1 := zCoa growW ws
 have l2 := zCoa trapW (strip growW ws).2
 simp only
 generalize strip growW ws = a at h1 h2 l1 l2
 obtain ⟨g, ws1⟩ := a
 simp only at h1 h2 l1 l2 ⊢
 generalize strip trapW ws1 = a at h2 l2
 obtain ⟨t, ws2⟩ := a
 simp only at h2 l2 ⊢
 have ec : cond t ((cond g ((true, (zC : zaba).2) : zaba) zC).1, (true, (cond g ((true, (zC : zaba).2) : zaba) zC).2.2)) (cond g ((true, (zC : zaba).2) : zaba) zC) = gc g t [] := by cases g <;> cases t <;> rfl
 have main : ∀ c : zaba, c = gc g t [] → ∃ v b, zxba (fun w7 w8 => K w7 w8) (fun w9 _ w11 => T21 w9 w11 K) ⟨ws2, zC, c⟩ = K v b ∧ (cond (strip giveW ws2).1 (giveE g t (strip giveW ws2).2) (restE g t [] (strip giveW ws2).2)) = if b = true then some v else none := by
  rintro c rfl
  cases ws2 with
  | nil => exact ⟨_, true, rfl, rfl⟩
  | cons x r =>
   by_cases h : x = giveW
   ·subst h
    have := zHxa (R := R) r (fun w hw => h2 w (List.mem_cons_of_mem _ hw)) (by simp only [List.length_cons] at l2; omega) g t K
    exact this
   ·have f : (x == ([103, 105, 118, 101] : List UInt8)) = false := by simpa using h
    have e : strip giveW (x :: r) = (false, x :: r) := by simp only [strip, if_neg h]
    rw [e]
    unfold zxba
    simp only [show (0 : Int).toNat = 0 from rfl, List.getD_cons_zero, f, cond_false]
    simp only [zgaa, zOaa]
    rw [if_pos (by simp only [List.length_cons]; omega), if_pos (by simp only [List.length_cons]; omega)]
    exact zQwa (x :: r) h2 g t [] K
 exact main _ ec
end
end Go.Trm.G1
namespace Go.Trm.G1
def oneE {α β : Type} (p : W → Option α) (mk : α → β) : List W → Option β
 | [w] => (p w).map mk
 | _ => none
def twoE {α β γ : Type} (p : W → Option α) (q : W → Option β) (mk : α → β → γ) : List W → Option γ
 | [w, v] => (match p w, q v with
  | some x, some y => some (mk x y)
  | _, _ => none)
 | _ => none
theorem zqta {α β : Type} (p : W → Option α) (mk : α → β) (ws : List W) : endP (bindP (wordP p) (fun x => retP (mk x)) ws) = oneE p mk ws := by
 match ws with
 | [] => rfl
 | [w] => simp only [bindP, oneE]; rw [zFaa]; cases p w <;> rfl
 | w :: x :: r => simp only [bindP]; rw [zFaa]; cases p w <;> rfl
theorem zWua {α β : Type} (P : PS α) (mk : α → β) (ws : List W) : endP (bindP P (fun x => retP (mk x)) ws) = (endP (P ws)).map mk := by
 unfold bindP
 cases P ws with
 | none => rfl
 | some q => obtain ⟨x, r⟩ := q; cases r <;> rfl
theorem zJxa {α β γ : Type} (p : W → Option α) (q : W → Option β) (mk : α → β → γ) (ws : List W) : endP (bindP (wordP p) (fun x => bindP (wordP q) fun y => retP (mk x y)) ws) = twoE p q mk ws := by
 match ws with
 | [] => rfl
 | [w] => simp only [bindP]; rw [zFaa]; cases p w <;> rfl
 | [w, v] =>
  simp only [bindP, twoE]; rw [zFaa]
  cases p w with
  | none => rfl
  | some x => simp only; rw [zFaa]; cases q v <;> rfl
 | w :: v :: x :: r =>
  simp only [bindP]; rw [zFaa]
  cases p w with
  | none => rfl
  | some x => simp only; rw [zFaa]; cases q v <;> rfl
def callE : List W → Option ActT
 | s :: n :: ws => match nameT s, numT n, valsE ws with
  | some s, some n, some l => some (mkA 5 [] zG zC s l n 0 0)
  | _, _, _ => none
 | _ => none
theorem zowa (ws : List W) : endP (bindP (wordP nameT) (fun s => bindP (wordP numT) fun n => bindP zyga fun l => retP (mkA 5 [] zG zC s l n 0 0)) ws) = callE ws := by
 match ws with
 | [] => rfl
 | [w] => simp only [bindP]; rw [zFaa]; cases nameT w <;> rfl
 | w :: v :: r =>
  simp only [bindP, callE]; rw [zFaa]
  cases nameT w with
  | none => rfl
  | some x =>
   simp only; rw [zFaa]
   cases numT v with
   | none => rfl
   | some n =>
    simp only
    rw [← zjsa]
    cases zyga r with
    | none => rfl
    | some q => obtain ⟨l, r'⟩ := q; cases r' <;> rfl
section
variable {R : Type}
theorem Is.map {α β : Type} {p : (α → Bool → Option R) → Option R} {o : Option α} (h : Is p o) (mk : α → β) : Is (fun K => p fun x b => K (mk x) b) (o.map mk) := by
 intro K
 obtain ⟨v, b, h1, h2⟩ := h (fun x b => K (mk x) b)
 refine ⟨mk v, b, h1, ?_⟩
 rw [h2]
 cases b <;> rfl
theorem zNja {w : W} {ws : List W} (i : Nat) (h : i < (w :: ws).length) : inB (i : Int) (List.length (w :: ws)) = true := by
 unfold inB; simp only [Bool.and_eq_true, decide_eq_true_eq]; omega
theorem zhta {l : List W} (i : Nat) (h : i ≤ l.length) : inR (i : Int) ((List.length l : Nat) : Int) (List.length l) = true := by
 unfold inR; simp only [Bool.and_eq_true, decide_eq_true_eq]; omega
theorem zSta (a b c : W) (l : List W) : rng (a :: b :: c :: l) (3 : Int) ((List.length (a :: b :: c :: l) : Nat) : Int) = l := by
 simp only [rng, Int.toNat_natCast, List.take_length]
 rfl
abbrev a0 : ActT := mkA 0 [] zG zC [] [] 0 0 0
theorem act27 (w : W) (ws : List W) (K : ActT → Bool → Option R) : zpaa (w :: ws) K = zBaa (fun _ w3 w4 w5 => cond w4 (K w3 w5) (K w3 false)) (fun w6 w7 => K w6 w7) ⟨w :: ws, a0, a0, true, true, ((List.length (w :: ws) : Nat) : Int)⟩ := rfl
theorem zOra (ws : List W) (hs : small ws) : Is (R := R) (fun K => zpaa (znka :: ws) K) (oneE hexW (fun b => mkA 1 b zG zC [] [] 0 0 0) ws) := by
 intro K
 show ∃ v b, zpaa (znka :: ws) K = K v b ∧ _
 rw [act27]
 have i0 : inB (0 : Int) (List.length (znka :: ws)) = true := zNja 0 (by simp)
 match ws, hs, i0 with
 | [], _, _ => exact ⟨_, false, rfl, rfl⟩
 | [x], hs, _ =>
  obtain ⟨v, b, e1, e2⟩ := zbra (R := R) x (hs x (by simp)).2 (fun r5 r6 => cond r6 (K (mkA 1 r5 zG zC [] [] 0 0 0) true) (K (mkA 1 r5 zG zC [] [] 0 0 0) false))
  refine ⟨mkA 1 v zG zC [] [] 0 0 0, b, ?_, by simp only [oneE, e2]; cases b <;> rfl⟩
  refine Eq.trans (Eq.trans rfl e1) ?_
  cases b <;> rfl
 | x :: y :: r, _, i0 =>
  refine ⟨a0, false, ?_, rfl⟩
  have l2 : (((List.length (znka :: x :: y :: r) : Nat) : Int) == 2) = false := by simp only [List.length_cons, beq_eq_false_iff_ne]; omega
  unfold zBaa
  simp only [i0, l2, show (0 : Int).toNat = 0 from rfl, show (1 : Int).toNat = 1 from rfl, show (2 : Int).toNat = 2 from rfl, List.getD_cons_zero, List.getD_cons_succ, cond_true, cond_false, (show (znka == ([98, 121, 116, 101, 115] : List UInt8)) = true from rfl), (show (znka == ([103, 105, 118, 101] : List UInt8)) = false from rfl), (show (znka == ([99, 104, 111, 105, 99, 101] : List UInt8)) = false from rfl), (show (znka == ([111, 112, 101, 110] : List UInt8)) = false from rfl), (show (znka == ([99, 97, 108, 108] : List UInt8)) = false from rfl), (show (znka == ([114, 101, 97, 100] : List UInt8)) = false from rfl), (show (znka == ([112, 101, 101, 107] : List UInt8)) = false from rfl)]
theorem zKsa (ws : List W) (hs : small ws) : Is (R := R) (fun K => zpaa (openW :: ws) K) (oneE numT (fun n => mkA 4 [] zG zC [] [] n 0 0) ws) := by
 intro K
 show ∃ v b, zpaa (openW :: ws) K = K v b ∧ _
 rw [act27]
 have i0 : inB (0 : Int) (List.length (openW :: ws)) = true := zNja 0 (by simp)
 match ws, hs, i0 with
 | [], _, _ => exact ⟨_, false, rfl, rfl⟩
 | [x], hs, _ =>
  obtain ⟨v, b, e1, e2⟩ := znca (R := R) x (fun r5 r6 => cond r6 (K (mkA 4 [] zG zC [] [] r5 0 0) true) (K (mkA 4 [] zG zC [] [] r5 0 0) false))
  refine ⟨mkA 4 [] zG zC [] [] v 0 0, b, ?_, by simp only [oneE, e2]; cases b <;> rfl⟩
  refine Eq.trans (Eq.trans rfl e1) ?_
  cases b <;> rfl
 | x :: y :: r, _, i0 =>
  refine ⟨a0, false, ?_, rfl⟩
  have l2 : (((List.length (openW :: x :: y :: r) : Nat) : Int) == 2) = false := by simp only [List.length_cons, beq_eq_false_iff_ne]; omega
  unfold zBaa
  simp only [i0, l2, show (0 : Int).toNat = 0 from rfl, show (1 : Int).toNat = 1 from rfl, show (2 : Int).toNat = 2 from rfl, List.getD_cons_zero, List.getD_cons_succ, cond_true, cond_false, (show (openW == ([98, 121, 116, 101, 115] : List UInt8)) = false from rfl), (show (openW == ([103, 105, 118, 101] : List UInt8)) = false from rfl), (show (openW == ([99, 104, 111, 105, 99, 101] : List UInt8)) = false from rfl), (show (openW == ([111, 112, 101, 110] : List UInt8)) = true from rfl), (show (openW == ([99, 97, 108, 108] : List UInt8)) = false from rfl), (show (openW == ([114, 101, 97, 100] : List UInt8)) = false from rfl), (show (openW == ([112, 101, 101, 107] : List UInt8)) = false from rfl)]
theorem zIsa (ws : List W) (hs : small ws) : Is (R := R) (fun K => zpaa (readW :: ws) K) (oneE nameT (fun s => mkA 6 [] zG zC s [] 0 0 0) ws) := by
 intro K
 show ∃ v b, zpaa (readW :: ws) K = K v b ∧ _
 rw [act27]
 have i0 : inB (0 : Int) (List.length (readW :: ws)) = true := zNja 0 (by simp)
 match ws, hs, i0 with
 | [], _, _ => exact ⟨_, false, rfl, rfl⟩
 | [x], hs, i0 =>
  have l2 : (((List.length (readW :: [x]) : Nat) : Int) == 2) = true := rfl
  have i1 : inB (1 : Int) (List.length (readW :: [x])) = true := rfl
  have hn := fun (K : Bool → Option R) => zara (R := R) x (hs x (by simp)).2 K
  unfold oneE nameT
  unfold zBaa
  simp only [i0, i1, l2, hn, show (0 : Int).toNat = 0 from rfl, show (1 : Int).toNat = 1 from rfl, show (2 : Int).toNat = 2 from rfl, List.getD_cons_zero, List.getD_cons_succ, cond_true, cond_false, (show (readW == ([98, 121, 116, 101, 115] : List UInt8)) = false from rfl), (show (readW == ([103, 105, 118, 101] : List UInt8)) = false from rfl), (show (readW == ([99, 104, 111, 105, 99, 101] : List UInt8)) = false from rfl), (show (readW == ([111, 112, 101, 110] : List UInt8)) = false from rfl), (show (readW == ([99, 97, 108, 108] : List UInt8)) = false from rfl), (show (readW == ([114, 101, 97, 100] : List UInt8)) = true from rfl), (show (readW == ([112, 101, 101, 107] : List UInt8)) = false from rfl)]
  cases zQoa x with
  | true => exact ⟨_, true, rfl, rfl⟩
  | false => exact ⟨a0, false, rfl, rfl⟩
 | x :: y :: r, _, i0 =>
  refine ⟨a0, false, ?_, rfl⟩
  have l2 : (((List.length (readW :: x :: y :: r) : Nat) : Int) == 2) = false := by simp only [List.length_cons, beq_eq_false_iff_ne]; omega
  unfold zBaa
  simp only [i0, l2, show (0 : Int).toNat = 0 from rfl, show (1 : Int).toNat = 1 from rfl, show (2 : Int).toNat = 2 from rfl, List.getD_cons_zero, List.getD_cons_succ, cond_true, cond_false, (show (readW == ([98, 121, 116, 101, 115] : List UInt8)) = false from rfl), (show (readW == ([103, 105, 118, 101] : List UInt8)) = false from rfl), (show (readW == ([99, 104, 111, 105, 99, 101] : List UInt8)) = false from rfl), (show (readW == ([111, 112, 101, 110] : List UInt8)) = false from rfl), (show (readW == ([99, 97, 108, 108] : List UInt8)) = false from rfl), (show (readW == ([114, 101, 97, 100] : List UInt8)) = true from rfl), (show (readW == ([112, 101, 101, 107] : List UInt8)) = false from rfl)]
theorem zJsa (ws : List W) (hs : small ws) : Is (R := R) (fun K => zpaa (peekW :: ws) K) (twoE numT numT (fun x y => mkA 7 [] zG zC [] [] 0 x y) ws) := by
 intro K
 show ∃ v b, zpaa (peekW :: ws) K = K v b ∧ _
 rw [act27]
 have i0 : inB (0 : Int) (List.length (peekW :: ws)) = true := zNja 0 (by simp)
 match ws, hs, i0 with
 | [], _, _ => exact ⟨_, false, rfl, rfl⟩
 | [x], _, _ => exact ⟨_, false, rfl, rfl⟩
 | [x, y], hs, i0 =>
  obtain ⟨v, b, e1, e2⟩ := znca (R := R) x (fun r5 r6 => zaaa y fun r7 r8 => cond r6 (K (mkA 7 [] zG zC [] [] 0 r5 r7) r8) (K (mkA 7 [] zG zC [] [] 0 r5 r7) false))
  obtain ⟨u, c, e3, e4⟩ := znca (R := R) y (fun r7 r8 => cond b (K (mkA 7 [] zG zC [] [] 0 v r7) r8) (K (mkA 7 [] zG zC [] [] 0 v r7) false))
  refine ⟨mkA 7 [] zG zC [] [] 0 v u, b && c, ?_, by simp only [twoE, e2, e4]; cases b <;> cases c <;> rfl⟩
  refine Eq.trans (Eq.trans rfl e1) (e3.trans ?_)
  cases b <;> rfl
 | x :: y :: z :: r, _, i0 =>
  refine ⟨a0, false, ?_, rfl⟩
  have l2 : (((List.length (peekW :: x :: y :: z :: r) : Nat) : Int) == 3) = false := by simp only [List.length_cons, beq_eq_false_iff_ne]; omega
  unfold zBaa
  simp only [i0, l2, show (0 : Int).toNat = 0 from rfl, show (1 : Int).toNat = 1 from rfl, show (2 : Int).toNat = 2 from rfl, List.getD_cons_zero, List.getD_cons_succ, cond_true, cond_false, (show (peekW == ([98, 121, 116, 101, 115] : List UInt8)) = false from rfl), (show (peekW == ([103, 105, 118, 101] : List UInt8)) = false from rfl), (show (peekW == ([99, 104, 111, 105, 99, 101] : List UInt8)) = false from rfl), (show (peekW == ([111, 112, 101, 110] : List UInt8)) = false from rfl), (show (peekW == ([99, 97, 108, 108] : List UInt8)) = false from rfl), (show (peekW == ([114, 101, 97, 100] : List UInt8)) = false from rfl), (show (peekW == ([112, 101, 101, 107] : List UInt8)) = true from rfl)]
theorem zMsa (ws : List W) (hs : small ws) (hl : ws.length ≤ most) : Is (R := R) (fun K => zpaa (callW :: ws) K) (callE ws) := by
 intro K
 show ∃ v b, zpaa (callW :: ws) K = K v b ∧ _
 rw [act27]
 have i0 : inB (0 : Int) (List.length (callW :: ws)) = true := zNja 0 (by simp)
 match ws, hs, i0, hl with
 | [], _, _, _ => exact ⟨_, false, rfl, rfl⟩
 | [x], _, _, _ => exact ⟨_, false, rfl, rfl⟩
 | x :: y :: r, hs, i0, hl =>
  have l3 : decide (((List.length (callW :: x :: y :: r) : Nat) : Int) ≥ 3) = true := by simp only [List.length_cons, decide_eq_true_eq]; omega
  have i1 : inB (1 : Int) (List.length (callW :: x :: y :: r)) = true := zNja 1 (by simp)
  have i2 : inB (2 : Int) (List.length (callW :: x :: y :: r)) = true := zNja 2 (by simp)
  have i3 : inR (3 : Int) ((List.length (callW :: x :: y :: r) : Nat) : Int) (List.length (callW :: x :: y :: r)) = true := zhta 3 (by simp)
  have hn := fun (K : Bool → Option R) => zara (R := R) x (hs x (by simp)).2 K
  unfold callE nameT
  unfold zBaa
  simp only [i0, i1, i2, i3, l3, hn, zSta, show (0 : Int).toNat = 0 from rfl, show (1 : Int).toNat = 1 from rfl, show (2 : Int).toNat = 2 from rfl, List.getD_cons_zero, List.getD_cons_succ, cond_true, cond_false, (show (callW == ([98, 121, 116, 101, 115] : List UInt8)) = false from rfl), (show (callW == ([103, 105, 118, 101] : List UInt8)) = false from rfl), (show (callW == ([99, 104, 111, 105, 99, 101] : List UInt8)) = false from rfl), (show (callW == ([111, 112, 101, 110] : List UInt8)) = false from rfl), (show (callW == ([99, 97, 108, 108] : List UInt8)) = true from rfl), (show (callW == ([114, 101, 97, 100] : List UInt8)) = false from rfl), (show (callW == ([112, 101, 101, 107] : List UInt8)) = false from rfl)]
  cases zQoa x with
  | false => exact ⟨a0, false, rfl, rfl⟩
  | true =>
   simp only [cond_true, if_true]
   obtain ⟨v, b, e1, e2⟩ := znca (R := R) y (fun r5 r6 => zPaa r fun r7 r8 => cond r6 (K (mkA 5 [] zG zC x r7 r5 0 0) r8) (K (mkA 5 [] zG zC x r7 r5 0 0) false))
   obtain ⟨u, c, e3, e4⟩ := zmpa (R := R) r (by simp only [List.length_cons] at hl; omega) (fun r7 r8 => cond b (K (mkA 5 [] zG zC x r7 v 0 0) r8) (K (mkA 5 [] zG zC x r7 v 0 0) false))
   refine ⟨mkA 5 [] zG zC x u v 0 0, b && c, ?_, by simp only [e2, e4]; cases b <;> cases c <;> rfl⟩
   refine e1.trans (e3.trans ?_)
   cases b <;> rfl
theorem zLsa (ws : List W) (hs : small ws) (hl : ws.length ≤ most) : Is (R := R) (fun K => zpaa (giveW :: ws) K) ((endP (zPka ws)).map (fun g => mkA 2 [] g zC [] [] 0 0 0)) := by
 intro K
 show ∃ v b, zpaa (giveW :: ws) K = K v b ∧ _
 rw [act27]
 have i0 : inB (0 : Int) (List.length (giveW :: ws)) = true := zNja 0 (by simp)
 have i1 : inR (1 : Int) ((List.length (giveW :: ws) : Nat) : Int) (List.length (giveW :: ws)) = true := zhta 1 (by simp)
 unfold zBaa
 simp only [i0, i1, zola, show (0 : Int).toNat = 0 from rfl, show (1 : Int).toNat = 1 from rfl, show (2 : Int).toNat = 2 from rfl, List.getD_cons_zero, List.getD_cons_succ, cond_true, cond_false, (show (giveW == ([98, 121, 116, 101, 115] : List UInt8)) = false from rfl), (show (giveW == ([103, 105, 118, 101] : List UInt8)) = true from rfl), (show (giveW == ([99, 104, 111, 105, 99, 101] : List UInt8)) = false from rfl), (show (giveW == ([111, 112, 101, 110] : List UInt8)) = false from rfl), (show (giveW == ([99, 97, 108, 108] : List UInt8)) = false from rfl), (show (giveW == ([114, 101, 97, 100] : List UInt8)) = false from rfl), (show (giveW == ([112, 101, 101, 107] : List UInt8)) = false from rfl)]
 obtain ⟨v, b, e1, e2⟩ := zUta (R := R) ws (fun r5 r6 => cond r6 (K ((fun g => mkA 2 [] g zC [] [] 0 0 0) r5) true) (K ((fun g => mkA 2 [] g zC [] [] 0 0 0) r5) false))
 refine ⟨(fun g => mkA 2 [] g zC [] [] 0 0 0) v, b, ?_, by rw [e2]; cases b <;> rfl⟩
 refine Eq.trans e1 ?_
 cases b <;> rfl
theorem zrqa (ws : List W) (hs : small ws) (hl : ws.length ≤ most) : Is (R := R) (fun K => zpaa (zefa :: ws) K) ((endP (zhma ws)).map (fun g => mkA 3 [] zG g [] [] 0 0 0)) := by
 intro K
 show ∃ v b, zpaa (zefa :: ws) K = K v b ∧ _
 rw [act27]
 have i0 : inB (0 : Int) (List.length (zefa :: ws)) = true := zNja 0 (by simp)
 have i1 : inR (1 : Int) ((List.length (zefa :: ws) : Nat) : Int) (List.length (zefa :: ws)) = true := zhta 1 (by simp)
 unfold zBaa
 simp only [i0, i1, zola, show (0 : Int).toNat = 0 from rfl, show (1 : Int).toNat = 1 from rfl, show (2 : Int).toNat = 2 from rfl, List.getD_cons_zero, List.getD_cons_succ, cond_true, cond_false, (show (zefa == ([98, 121, 116, 101, 115] : List UInt8)) = false from rfl), (show (zefa == ([103, 105, 118, 101] : List UInt8)) = false from rfl), (show (zefa == ([99, 104, 111, 105, 99, 101] : List UInt8)) = true from rfl), (show (zefa == ([111, 112, 101, 110] : List UInt8)) = false from rfl), (show (zefa == ([99, 97, 108, 108] : List UInt8)) = false from rfl), (show (zefa == ([114, 101, 97, 100] : List UInt8)) = false from rfl), (show (zefa == ([112, 101, 101, 107] : List UInt8)) = false from rfl)]
 obtain ⟨v, b, e1, e2⟩ := zHsa (R := R) ws hs hl (fun r5 r6 => cond r6 (K ((fun g => mkA 3 [] zG g [] [] 0 0 0) r5) true) (K ((fun g => mkA 3 [] zG g [] [] 0 0 0) r5) false))
 refine ⟨(fun g => mkA 3 [] zG g [] [] 0 0 0) v, b, ?_, by rw [e2]; cases b <;> rfl⟩
 refine Eq.trans e1 ?_
 cases b <;> rfl
theorem zcxa (w : W) (ws : List W) (d1 : ¬ w = znka) (d2 : ¬ w = giveW) (d3 : ¬ w = zefa) (d4 : ¬ w = openW) (d5 : ¬ w = callW) (d6 : ¬ w = readW) (d7 : ¬ w = peekW) : Is (R := R) (fun K => zpaa (w :: ws) K) none := by
 intro K
 show ∃ v b, zpaa (w :: ws) K = K v b ∧ _
 rw [act27]
 have i0 : inB (0 : Int) (List.length (w :: ws)) = true := zNja 0 (by simp)
 refine ⟨a0, false, ?_, rfl⟩
 unfold zBaa
 simp only [i0, show (0 : Int).toNat = 0 from rfl, show (1 : Int).toNat = 1 from rfl, show (2 : Int).toNat = 2 from rfl, List.getD_cons_zero, List.getD_cons_succ, cond_true, cond_false, (show (w == ([98, 121, 116, 101, 115] : List UInt8)) = false by simpa using d1), (show (w == ([103, 105, 118, 101] : List UInt8)) = false by simpa using d2), (show (w == ([99, 104, 111, 105, 99, 101] : List UInt8)) = false by simpa using d3), (show (w == ([111, 112, 101, 110] : List UInt8)) = false by simpa using d4), (show (w == ([99, 97, 108, 108] : List UInt8)) = false by simpa using d5), (show (w == ([114, 101, 97, 100] : List UInt8)) = false by simpa using d6), (show (w == ([112, 101, 101, 107] : List UInt8)) = false by simpa using d7)]
theorem zdxa (w : W) (ws : List W) (h : small ws) (hl : ws.length ≤ most) : Is (R := R) (fun K => zpaa (w :: ws) K) (actE (w :: ws)) := by
 show Is _ (endP (actP w ws))
 unfold actP
 by_cases d1 : w = znka
 ·subst d1
  rw [if_pos rfl]
  rw [zqta]
  exact zOra ws h
 rw [if_neg d1]
 by_cases d2 : w = giveW
 ·subst d2
  rw [if_pos rfl]
  rw [zWua]
  exact zLsa ws h hl
 rw [if_neg d2]
 by_cases d3 : w = zefa
 ·subst d3
  rw [if_pos rfl]
  rw [zWua]
  exact zrqa ws h hl
 rw [if_neg d3]
 by_cases d4 : w = openW
 ·subst d4
  rw [if_pos rfl]
  rw [zqta]
  exact zKsa ws h
 rw [if_neg d4]
 by_cases d5 : w = callW
 ·subst d5
  rw [if_pos rfl]
  rw [zowa]
  exact zMsa ws h hl
 rw [if_neg d5]
 by_cases d6 : w = readW
 ·subst d6
  rw [if_pos rfl]
  rw [zqta]
  exact zIsa ws h
 rw [if_neg d6]
 by_cases d7 : w = peekW
 ·subst d7
  rw [if_pos rfl]
  rw [zJxa]
  exact zJsa ws h
 rw [if_neg d7]
 exact zcxa w ws d1 d2 d3 d4 d5 d6 d7
end
end Go.Trm.G1
namespace Go.Trm.G1
def zXba : W → W → List W
 | w, [] => [w]
 | w, b :: l => if b = 10 then w :: zXba [] l else zXba (w ++ [b]) l
theorem zAla : ∀ (l w : W), zXba w l = match zIba 10 l with
  | x :: r => (w ++ x) :: r
  | [] => [w]
 | [], w => by simp [zXba, zIba]
 | b :: l, w => by
  unfold zXba zIba
  by_cases hb : b = 10
  ·rw [if_pos hb, if_pos hb, zAla l []]
   simp only [List.append_nil]
   cases h : zIba 10 l with
   | nil => exact absurd h (zDoa 10 l)
   | cons x r => rfl
  ·rw [if_neg hb, if_neg hb, zAla l (w ++ [b])]
   cases h : zIba 10 l with
   | nil => exact absurd h (zDoa 10 l)
   | cons x r => simp
theorem zvqa (l : W) : zXba [] l = zIba 10 l := by
 rw [zAla]
 cases h : zIba 10 l with
 | nil => exact absurd h (zDoa 10 l)
 | cons x r => rfl
inductive zwwa | no | bad | act (a : ActT)
def lineA (l : W) : zwwa := match zeba [] l with
 | [] => .no
 | w :: ws => if w.head? = some 35 then .no else match actE (w :: ws) with
  | none => .bad
  | some a => .act a
abbrev zEra := List ActT × Int × Int
def zEea : List W → Nat → List ActT → zEra
 | [], _, out => (out, 0, 0)
 | l :: ls, i, out => if 256 ≤ i ∨ 512 < l.length then ([], 4, ((i + 1 : Nat) : Int)) else match lineA l with
  | .no => zEea ls (i + 1) out
  | .bad => ([], 2, ((i + 1 : Nat) : Int))
  | .act a => zEea ls (i + 1) (out ++ [a])
theorem zsha : ∀ (l w : W), ∀ x ∈ zeba w l, x ≠ []
 | [], w => by
  unfold zeba
  split
  ·simp
  ·intro x hx; simp only [List.mem_singleton] at hx; subst hx; assumption
 | b :: l, w => by
  unfold zeba
  split
  ·split
   ·exact zsha l []
   ·intro x hx
    rcases List.mem_cons.1 hx with hx | hx
    ·subst hx; assumption
    ·exact zsha l [] x hx
  ·exact zsha l _
theorem zfla {l : W} (h : l.length ≤ most) : small (zeba [] l) := fun x hx => ⟨zsha l [] x hx, by have := (zzea l []).2 x hx; simp only [List.length_nil] at this; omega⟩
theorem zrra (w : W) (h : w ≠ []) : (bt w (0 : Int) = 35 ↔ w.head? = some 35) := by
 cases w with
 | nil => exact absurd rfl h
 | cons b l =>
  rw [bt_0]
  simp only [List.head?_cons, Option.some.injEq]
  constructor
  ·intro e; exact UInt8.toNat_inj.1 (by show b.toNat = 35; omega)
  ·intro e; subst e; rfl
section
variable {R : Type}
noncomputable def lineK (kr : List ActT → Int → Int → Option R) (rec : List ActT → Option R) (l : W) (k : Nat) (out : List ActT) : Option R :=
 if 256 ≤ k ∨ 512 < l.length then kr [] 4 ((k + 1 : Nat) : Int) else match lineA l with
  | .no => rec out
  | .bad => kr [] 2 ((k + 1 : Nat) : Int)
  | .act a => rec (out ++ [a])
def fin (kr : List ActT → Int → Int → Option R) (kx : List ActT → Option R) (q : zEra) : Option R := if q.2.1 = 0 then kx q.1 else kr q.1 q.2.1 q.2.2
theorem zFqa (kr : List ActT → Int → Int → Option R) (kx : List ActT → Option R) (l : W) (ls : List W) (k : Nat) (out : List ActT) : fin kr kx (zEea (l :: ls) k out) = lineK kr (fun o => fin kr kx (zEea ls (k + 1) o)) l k out := by
 unfold lineK
 conv => lhs; unfold zEea
 split
 ·rfl
 ·split <;> first | rfl | simp_all
theorem zwoa {kr : List ActT → Int → Int → Option R} {rec rec' : List ActT → Option R} {l : W} {k : Nat} {out : List ActT} (ho : out.length ≤ k) (h : ∀ o, o.length ≤ k + 1 → rec o = rec' o) : lineK kr rec l k out = lineK kr rec' l k out := by
 unfold lineK
 split
 ·rfl
 ·split
  ·exact h _ (by omega)
  ·rfl
  ·exact h _ (by simp only [List.length_append, List.length_cons, List.length_nil]; omega)
noncomputable def SB (kr : List ActT → Int → Int → Option R) (rec : zGaa → Option R) (out : List ActT) (ls : List W) (N i : Int) (l : W) : Option R :=
 (let v3 := decide (i ≥ (256 : Int))
 cond v3
 (let v4 := IntKind.i64.wrap (i + (1 : Int))
 kr ([] : List ((Int) × It3)) (4 : Int) v4)
 (let v5 := ((List.length l : Nat) : Int)
 let v6 := decide (v5 > (512 : Int))
 cond v6
 (let v7 := IntKind.i64.wrap (i + (1 : Int))
 kr ([] : List ((Int) × It3)) (4 : Int) v7)
 (zYda l fun r8 =>
 let v9 := ((List.length r8 : Nat) : Int)
 let v10 := v9 == (0 : Int)
 cond v10
 (let v11 := IntKind.i64.wrap (i + (1 : Int))
 rec ⟨out, ls, N, v11⟩)
 (cond (inB (0 : Int) (List.length r8))
 (let v12 := (List.getD r8 (0 : Int).toNat ([] : List UInt8))
 cond (inB (0 : Int) (List.length v12))
 (let v13 := bt v12 (0 : Int)
 let v14 := v13 == (35 : Int)
 cond v14
 (let v15 := IntKind.i64.wrap (i + (1 : Int))
 rec ⟨out, ls, N, v15⟩)
 (ziea r8 fun r16 r17 =>
 let v18 := !r17
 cond v18
 (let v19 := IntKind.i64.wrap (i + (1 : Int))
 kr ([] : List ((Int) × It3)) (2 : Int) v19)
 (let v20 := List.set (List.replicate 1 ((0 : Int), (([] : List (Int)), (((0 : Int), (false, ((0 : Int), ((0 : Int), (false, ((0 : Int), ())))))), ((false, (false, (([] : List (Int)), ((0 : Int), (([] : List (Int)), ()))))), (([] : List UInt8), (([] : List (Int)), ((0 : Int), ((0 : Int), ((0 : Int), ())))))))))) 0 r16
 cond (decide (List.length out + List.length v20 ≤ most))
 (let v21 := out ++ v20
 let v22 := IntKind.i64.wrap (i + (1 : Int))
 rec ⟨v21, ls, N, v22⟩) none))) none) none))))
theorem zeva (kr : List ActT → Int → Int → Option R) (kx : List ActT → Option R) (rec : zGaa → Option R) (out : List ActT) (ls : List W) (N i : Int) :
  zWda kr kx rec ⟨out, ls, N, i⟩ = cond (decide (i < N)) (cond (inB i ls.length) (SB kr rec out ls N i (ls.getD i.toNat [])) none) (kx out) := rfl
theorem sb_eq (kr : List ActT → Int → Int → Option R) (rec : zGaa → Option R) (ls : List W) (out : List ActT) (l : W) (k : Nat) (N : Int) (hl : l.length ≤ most) (hk : k ≤ most) (ho : out.length ≤ k) :
  SB kr rec out ls N (k : Int) l = lineK kr (fun o => rec ⟨o, ls, N, ((k + 1 : Nat) : Int)⟩) l k out := by
 have hm : most = 4294967296 := rfl
 unfold SB lineK
 simp only [zgaa, zOaa, zpha, zoja, zdfa]
 rw [w_i64 (n := ((k : Int) + 1)) (by omega), show (k : Int) + 1 = ((k + 1 : Nat) : Int) by omega]
 by_cases c1 : 256 ≤ k
 ·rw [if_pos (by omega), if_pos (.inl c1)]
 rw [if_neg (by omega)]
 by_cases c2 : 512 < l.length
 ·rw [if_pos (by omega), if_pos (.inr c2)]
 rw [if_neg (by omega), if_neg (by omega)]
 show zBka l _ = _
 unfold zBka
 simp only [zgaa]
 rw [if_pos hl]
 have hw := zfla hl
 have hw2 := (zzea l []).1
 unfold lineA
 cases hq : zeba [] l with
 | nil => rfl
 | cons w ws =>
  rw [hq] at hw hw2
  have hw1 := (hw w List.mem_cons_self).1
  have hw0 : 0 < w.length := by cases w; exact absurd rfl hw1; simp
  rw [if_neg (by simp only [List.length_cons]; omega), if_pos (by simp only [List.length_cons]; omega)]
  show (if 0 ≤ (0 : Int) ∧ (0 : Int) < ((w.length : Nat) : Int) then _ else none) = _
  rw [if_pos (by omega)]
  show (if bt w (0 : Int) = (35 : Int) then _ else _) = _
  by_cases hb : w.head? = some 35
  ·rw [if_pos ((zrra w hw1).2 hb)]
   simp only [if_pos hb]
  rw [if_neg (fun e => hb ((zrra w hw1).1 e))]
  simp only [if_neg hb]
  obtain ⟨v, b, e1, e2⟩ := zwya (R := R) w ws ⟨hw, by simp only [List.length_cons, List.length_nil] at hw2 ⊢; omega⟩ (fun r16 r17 => if r17 = true then (if out.length + (List.set (List.replicate 1 a0) 0 r16).length ≤ most then rec ⟨out ++ List.set (List.replicate 1 a0) 0 r16, ls, N, ((k + 1 : Nat) : Int)⟩ else none) else kr [] 2 ((k + 1 : Nat) : Int))
  refine Eq.trans (Eq.trans ?_ e1) ?_
  ·congr 1
   funext x y
   cases y <;> rfl
  ·rw [e2]
   cases b with
   | false => rfl
   | true =>
    simp only [if_true]
    rw [if_pos (by simp only [List.length_set, List.length_replicate]; omega)]
    rfl
theorem zOsa (kr : List ActT → Int → Int → Option R) (kx : List ActT → Option R) (ls : List W) (hl : ls.length ≤ most) (hs : ∀ x ∈ ls, x.length ≤ most) : ∀ (n i : Nat) (out : List ActT), ls.length ≤ i + n → i ≤ ls.length → out.length ≤ i →
  loopN (zWda kr kx) (n + 1) ⟨out, ls, ((ls.length : Nat) : Int), (i : Int)⟩ = fin kr kx (zEea (ls.drop i) i out) := by
 have hm : most = 4294967296 := rfl
 intro n
 induction n with
 | zero =>
  intro i out h1 h2 h3
  rw [znaa, zeva]
  simp only [zgaa]
  rw [if_neg (by omega), List.drop_of_length_le (by omega)]
  rfl
 | succ n ih =>
  intro i out h1 h2 h3
  rw [znaa, zeva]
  simp only [zgaa, zOaa, Int.toNat_natCast]
  by_cases hi : i < ls.length
  case neg =>
   rw [if_neg (by omega), List.drop_of_length_le (by omega)]
   rfl
  have hx : (ls.getD i []).length ≤ most := by
   rw [List.getD_eq_getElem?_getD, List.getElem?_eq_getElem hi]
   exact hs _ (List.getElem_mem hi)
  rw [if_pos (by omega), if_pos (by omega), zFda ls i [] hi, zFqa, sb_eq _ _ _ _ _ _ _ hx (by omega) h3]
  exact zwoa h3 fun o ho => ih (i + 1) o (by omega) (by omega) ho
theorem zMoa : ∀ (ls : List W) (k : Nat) (out : List ActT), (zEea ls k out).2.1 = 0 → (zEea ls k out).2.2 = 0
 | [], _, _ => fun _ => rfl
 | l :: ls, k, out => by
  unfold zEea
  split
  ·intro h; simp at h
  ·split
   ·exact zMoa ls _ _
   ·intro h; simp at h
   ·exact zMoa ls _ _
theorem fin_K (K : List ActT → Int → Int → Option R) (q : zEra) (h : q.2.1 = 0 → q.2.2 = 0) : fin (fun w3 w4 w5 => K w3 w4 w5) (fun w6 => K w6 (0 : Int) (0 : Int)) q = K q.1 q.2.1 q.2.2 := by
 unfold fin
 split
 ·rename_i e; rw [e, h e]
 ·rfl
theorem zNoa (t : W) (ht : t.length ≤ 2147483648) (K : List ActT → Int → Int → Option R) : zXaa t K = K (zEea (zIba 10 t) 0 []).1 (zEea (zIba 10 t) 0 []).2.1 (zEea (zIba 10 t) 0 []).2.2 := by
 have hm : most = 4294967296 := rfl
 unfold zXaa
 show zRma t _ _ = _
 unfold zRma
 simp only [zgaa, beq_self_eq_true, Bool.true_and]
 rw [if_pos (by omega)]
 have h1 := ztka 10 t
 obtain ⟨m, hf⟩ := zTca ((zIba 10 t).length + 1) (by omega)
 rw [hf]
 refine Eq.trans (zOsa (fun w3 w4 w5 => K w3 w4 w5) (fun w6 => K w6 (0 : Int) (0 : Int)) (zIba 10 t) (by omega) (fun x hx => by have := h1.2 x hx; omega) (m + (zIba 10 t).length) 0 [] (by omega) (by omega) (by simp)) ?_
 rw [List.drop_zero]
 exact fin_K K _ (zMoa _ _ _)
noncomputable def PB (kr : List ActT → Int → Int → Option R) (rec : zQaa → Option R) (t : W) (out : List ActT) (line : W) (k1 i : Int) : Option R :=
 (let v31 := decide (k1 > (256 : Int))
 cond v31
 (kr ([] : List ((Int) × It3)) (4 : Int) k1)
 (let v32 := ((List.length line : Nat) : Int)
 let v33 := decide (v32 > (512 : Int))
 cond v33
 (kr ([] : List ((Int) × It3)) (4 : Int) k1)
 (zYca line fun r34 =>
 let v35 := ((List.length r34 : Nat) : Int)
 let v36 := decide (v35 > (0 : Int))
 cond v36
 (cond (inB (0 : Int) (List.length r34))
 (let v37 := (List.getD r34 (0 : Int).toNat ([] : List UInt8))
 cond (inB (0 : Int) (List.length v37))
 (let v38 := bt v37 (0 : Int)
 let v39 := v38 != (35 : Int)
 cond v39
 (zpaa r34 fun r40 r41 =>
 let v42 := !r41
 cond v42
 (kr ([] : List ((Int) × It3)) (2 : Int) k1)
 (let v43 := List.set (List.replicate 1 ((0 : Int), (([] : List (Int)), (((0 : Int), (false, ((0 : Int), ((0 : Int), (false, ((0 : Int), ())))))), ((false, (false, (([] : List (Int)), ((0 : Int), (([] : List (Int)), ()))))), (([] : List UInt8), (([] : List (Int)), ((0 : Int), ((0 : Int), ((0 : Int), ())))))))))) 0 r40
 cond (decide (List.length out + List.length v43 ≤ most))
 (let v44 := out ++ v43
 let v45 := IntKind.i64.wrap (k1 + (1 : Int))
 let v46 := IntKind.i64.wrap (i + (1 : Int))
 rec ⟨t, v44, ([] : List UInt8), v45, v46⟩) none))
 (let v47 := IntKind.i64.wrap (k1 + (1 : Int))
 let v48 := IntKind.i64.wrap (i + (1 : Int))
 rec ⟨t, out, ([] : List UInt8), v47, v48⟩)) none) none)
 (let v49 := IntKind.i64.wrap (k1 + (1 : Int))
 let v50 := IntKind.i64.wrap (i + (1 : Int))
 rec ⟨t, out, ([] : List UInt8), v49, v50⟩))))
theorem zDta (kr : List ActT → Int → Int → Option R) (kx : List ActT → Option R) (rec : zQaa → Option R) (t : W) (out : List ActT) (line : W) (k1 i : Int) :
  zdba kr kx rec ⟨t, out, line, k1, i⟩ = cond (decide (i ≤ ((t.length : Nat) : Int))) (cond (decide (i < ((t.length : Nat) : Int))) (cond (inB i t.length) (cond (bt t i != (10 : Int)) (let v7 := IntKind.i64.wrap (i + (1 : Int)); cond (inR i v7 t.length) (cond (decide (line.length + (rng t i v7).length ≤ most)) (rec ⟨t, out, line ++ rng t i v7, k1, v7⟩) none) none) (PB kr rec t out line k1 i)) none) (PB kr rec t out line k1 i)) (kx out) := rfl
theorem pb_eq (kr : List ActT → Int → Int → Option R) (rec : zQaa → Option R) (t : W) (out : List ActT) (line : W) (k i : Nat) (hl : line.length ≤ 2147483648) (hk : k ≤ 2147483648) (hi : i ≤ 2147483648) (ho : out.length ≤ k) :
  PB kr rec t out line ((k + 1 : Nat) : Int) (i : Int) = lineK kr (fun o => rec ⟨t, o, [], ((k + 2 : Nat) : Int), ((i + 1 : Nat) : Int)⟩) line k out := by
 have hm : most = 4294967296 := rfl
 unfold PB lineK
 simp only [zgaa, zOaa, zpha, zoja, zdfa]
 rw [w_i64 (n := (((k + 1 : Nat) : Int) + 1)) (by omega), w_i64 (n := ((i : Int) + 1)) (by omega), show (((k + 1 : Nat) : Int) + 1) = ((k + 2 : Nat) : Int) by omega, show (i : Int) + 1 = ((i + 1 : Nat) : Int) by omega]
 by_cases c1 : 256 ≤ k
 ·rw [if_pos (by omega), if_pos (.inl c1)]
 rw [if_neg (by omega)]
 by_cases c2 : 512 < line.length
 ·rw [if_pos (by omega), if_pos (.inr c2)]
 rw [if_neg (by omega), if_neg (by omega), ziva line (by omega)]
 have hw := zfla (l := line) (by omega)
 have hw2 := (zzea line []).1
 unfold lineA
 cases hq : zeba [] line with
 | nil => rfl
 | cons w ws =>
  rw [hq] at hw hw2
  have hw1 := (hw w List.mem_cons_self).1
  have hw0 : 0 < w.length := by cases w; exact absurd rfl hw1; simp
  rw [if_pos (by simp only [List.length_cons]; omega), if_pos (by simp only [List.length_cons]; omega)]
  show (if 0 ≤ (0 : Int) ∧ (0 : Int) < ((w.length : Nat) : Int) then _ else none) = _
  rw [if_pos (by omega)]
  show (if bt w (0 : Int) = (35 : Int) then _ else _) = _
  by_cases hb : w.head? = some 35
  ·rw [if_pos ((zrra w hw1).2 hb)]
   simp only [if_pos hb]
  rw [if_neg (fun e => hb ((zrra w hw1).1 e))]
  simp only [if_neg hb]
  obtain ⟨v, b, e1, e2⟩ := zdxa (R := R) w ws (fun x hx => hw x (List.mem_cons_of_mem _ hx)) (by simp only [List.length_cons, List.length_nil] at hw2 ⊢; omega) (fun r16 r17 => if r17 = true then (if out.length + (List.set (List.replicate 1 a0) 0 r16).length ≤ most then rec ⟨t, out ++ List.set (List.replicate 1 a0) 0 r16, [], ((k + 2 : Nat) : Int), ((i + 1 : Nat) : Int)⟩ else none) else kr [] 2 ((k + 1 : Nat) : Int))
  refine Eq.trans (Eq.trans ?_ e1) ?_
  ·congr 1
   funext x y
   cases y <;> rfl
  ·rw [e2]
   cases b with
   | false => rfl
   | true =>
    simp only [if_true]
    rw [if_pos (by simp only [List.length_set, List.length_replicate]; omega)]
    rfl
theorem zLra (kr : List ActT → Int → Int → Option R) (kx : List ActT → Option R) (t : W) (ht : t.length ≤ 1073741824) : ∀ (n i k : Nat) (out : List ActT) (line : W), t.length ≤ i + n → i ≤ t.length → out.length ≤ k → k ≤ i → line.length ≤ i →
  loopN (zdba kr kx) (n + 2) ⟨t, out, line, ((k + 1 : Nat) : Int), (i : Int)⟩ = fin kr kx (zEea (zXba line (t.drop i)) k out) := by
 have hm : most = 4294967296 := rfl
 have hend : ∀ (n i k : Nat) (out : List ActT) (line : W), i = t.length → out.length ≤ k → k ≤ i → line.length ≤ i → loopN (zdba kr kx) (n + 2) ⟨t, out, line, ((k + 1 : Nat) : Int), (i : Int)⟩ = fin kr kx (zEea (zXba line (t.drop i)) k out) := by
  intro n i k out line hi h3 h4 h5
  have hstop : ∀ o, loopN (zdba kr kx) (n + 1) ⟨t, o, [], ((k + 2 : Nat) : Int), ((i + 1 : Nat) : Int)⟩ = kx o := by
   intro o
   rw [znaa, zDta]
   simp only [zgaa]
   rw [if_neg (by omega)]
  rw [znaa]
  generalize loopN (zdba kr kx) (n + 1) = rec at hstop ⊢
  rw [zDta]
  simp only [zgaa]
  rw [if_pos (by omega), if_neg (by omega), pb_eq _ _ _ _ _ _ _ (by omega) (by omega) (by omega) h3, List.drop_of_length_le (by omega)]
  unfold zXba
  rw [zFqa]
  simp only [hstop]
  rfl
 intro n
 induction n with
 | zero => intro i k out line h1 h2 h3 h4 h5; exact hend 0 i k out line (by omega) h3 h4 h5
 | succ n ih =>
  intro i k out line h1 h2 h3 h4 h5
  by_cases hi : i < t.length
  case neg => exact hend (n + 1) i k out line (by omega) h3 h4 h5
  rw [znaa]
  generalize loopN (zdba kr kx) (n + 2) = rec at ih ⊢
  rw [zDta]
  simp only [zgaa, zOaa, zpja, zpha]
  rw [if_pos (by omega), if_pos (by omega), if_pos (by omega), pb_eq _ _ _ _ _ _ _ (by omega) (by omega) (by omega) h3, w_i64 (by omega), show (i : Int) + 1 = ((i + 1 : Nat) : Int) by omega, bt_at, zxsa t i hi, zFda t i 0 hi]
  generalize t.getD i 0 = b
  conv => rhs; unfold zXba
  by_cases hb : b = 10
  ·subst hb
   rw [if_pos (by rfl), if_pos rfl, zFqa]
   refine zwoa h3 fun o ho => ?_
   exact ih (i + 1) (k + 1) o [] (by omega) (by omega) ho (by omega) (by simp)
  ·rw [if_neg (fun hc => hb (UInt8.toNat_inj.1 (by show b.toNat = 10; omega))), if_neg hb, if_pos ⟨by omega, by omega, by omega⟩, if_pos (by simp only [List.length_cons, List.length_nil]; omega)]
   rw [ih (i + 1) k out _ (by omega) (by omega) (by omega) (by omega) (by simp only [List.length_append, List.length_cons, List.length_nil]; omega)]
theorem zRta (t : W) (ht : t.length ≤ 1073741824) (K : List ActT → Int → Int → Option R) : zSfa t K = K (zEea (zIba 10 t) 0 []).1 (zEea (zIba 10 t) 0 []).2.1 (zEea (zIba 10 t) 0 []).2.2 := by
 unfold zSfa
 obtain ⟨m, hf⟩ := zTca (t.length + 2) (by omega)
 rw [hf]
 refine Eq.trans (zLra (fun w1 w2 w3 => K w1 w2 w3) (fun w4 => K w4 (0 : Int) (0 : Int)) t ht (m + t.length) 0 0 [] [] (by omega) (by omega) (by simp) (by simp) (by simp)) ?_
 rw [List.drop_zero, zvqa]
 exact fin_K K _ (zMoa _ _ _)
end
end Go.Trm.G1
namespace Go.Trm.G1
abbrev Sz (ws : List W) : Prop := small ws ∧ ws.length ≤ most
def Po {α : Type} (P : PS α) (φ : α → Prop) : Prop := ∀ ws x r, Sz ws → P ws = some (x, r) → φ x ∧ Sz r
theorem Po.bind {α β : Type} {P : PS α} {Q : α → PS β} {φ : α → Prop} {ψ : β → Prop} (h : Po P φ) (k : ∀ x, φ x → Po (Q x) ψ) : Po (bindP P Q) ψ := by
 intro ws y r hs e
 unfold bindP at e
 cases hp : P ws with
 | none => rw [hp] at e; cases e
 | some q =>
  obtain ⟨x, r'⟩ := q
  rw [hp] at e
  obtain ⟨h1, h2⟩ := h ws x r' hs hp
  exact k x h1 r' y r h2 e
theorem Po.ret {α : Type} {x : α} {φ : α → Prop} (h : φ x) : Po (retP x) φ := by
 intro ws y r hs e
 cases e
 exact ⟨h, hs⟩
theorem Po.ite {α : Type} {P Q : PS α} {φ : α → Prop} (c : Bool) (h : Po P φ) (k : Po Q φ) : Po (cond c P Q) φ := by cases c <;> assumption
theorem zosa {w : W} {ws : List W} (h : Sz (w :: ws)) : Sz ws := ⟨fun x hx => h.1 x (List.mem_cons_of_mem _ hx), by have := h.2; simp only [List.length_cons] at this; omega⟩
theorem Po.word {α : Type} {p : W → Option α} {φ : α → Prop} (h : ∀ w x, w.length ≤ most → p w = some x → φ x) : Po (wordP p) φ := by
 intro ws y r hs e
 cases ws with
 | nil => simp [wordP] at e
 | cons w ws =>
  rw [zFaa] at e
  cases hp : p w with
  | none => rw [hp] at e; cases e
  | some x =>
   rw [hp] at e
   cases e
   exact ⟨h w y (hs.1 w List.mem_cons_self).2 hp, zosa hs⟩
theorem Po.is (w : W) : Po (isP w) (fun _ => True) := by
 intro ws y r hs e
 rw [zSma] at e
 have e1 := congrArg Prod.snd (Option.some.inj e)
 simp only at e1
 rw [← e1]
 exact ⟨trivial, zhla hs.1, Nat.le_trans (zCoa w ws) hs.2⟩
theorem zkta : ∀ (l : W) (z : List Int), hexs l = some z → z.length ≤ l.length
 | [], z, h => by
  simp [hexs] at h; subst h; simp
 | [a], z, h => by simp [hexs] at h
 | a :: b :: l, z, h => by
  rw [zVma] at h
  cases h1 : hexD a with
  | none => rw [h1] at h; cases h
  | some x =>
   cases h2 : hexD b with
   | none => rw [h1, h2] at h; cases h
   | some y =>
    cases h3 : hexs l with
    | none => rw [h1, h2, h3] at h; cases h
    | some m =>
     rw [h1, h2, h3] at h
     have := zkta l m h3
     cases h
     simp only [List.length_cons]; omega
theorem zawa (w : W) (z : List Int) (hw : w.length ≤ most) (h : hexW w = some z) : z.length ≤ most := by
 unfold hexW at h
 split at h
 ·cases h
 ·have := zkta w z h; omega
theorem zmsa : ∀ (ws : List W) (x : List Int) (r : List W), Sz ws → valsP ws = some (x, r) → Sz r
 | [], x, r, hs, e => by
  simp [valsP] at e
  obtain ⟨rfl, rfl⟩ := e
  exact hs
 | w :: ws, x, r, hs, e => by
  unfold valsP at e
  split at e
  ·split at e
   ·rename_i n l r' h1 h2
    cases e
    exact zmsa ws l r (zosa hs) h2
   ·cases e
  ·cases e
   exact hs
theorem Po.values : Po zyga (fun l => l.length ≤ 8) := by
 intro ws x r hs e
 unfold zyga at e
 cases hp : valsP ws with
 | none => rw [hp] at e; cases e
 | some q =>
  obtain ⟨y, r'⟩ := q
  rw [hp] at e
  simp only at e
  split at e
  ·cases e
  ·cases e
   exact ⟨by omega, zmsa ws _ _ hs hp⟩
theorem Po.ne (l : List Int) : Po (neP l) (fun x => x = l) := by
 intro ws x r hs e
 unfold neP at e
 split at e
 ·cases e
 ·cases e; exact ⟨rfl, hs⟩
theorem Po.mono {α : Type} {P : PS α} {φ ψ : α → Prop} (h : Po P φ) (k : ∀ x, φ x → ψ x) : Po P ψ := fun ws x r hs e => ⟨k x (h ws x r hs e).1, (h ws x r hs e).2⟩
def okC (c : zaba) : Prop := c.2.2.1.length ≤ most ∧ c.2.2.2.2.1.length ≤ most
def okA (a : ActT) : Prop := a.2.1.length ≤ most ∧ okC a.2.2.2.1 ∧ a.2.2.2.2.2.1.length ≤ most
theorem zhya : (0 : Nat) ≤ most := Nat.zero_le _
theorem zGea : ([] : List Int).length ≤ most := Nat.zero_le _
theorem Po.any {α : Type} {p : W → Option α} : Po (wordP p) (fun _ => True) := Po.word fun _ _ _ _ => trivial
theorem Po.hex : Po (wordP hexW) (fun l => l.length ≤ most) := Po.word zawa
theorem Po.size : Po sizeP (fun _ => True) := Po.any.bind fun _ _ => (Po.is _).bind fun _ _ => .ite _ (Po.any.bind fun _ _ => .ret trivial) (.ret trivial)
theorem Po.given : Po zPka (fun _ => True) := (Po.is _).bind fun _ _ => .ite _ Po.size ((Po.is _).bind fun _ _ => .ite _ Po.size ((Po.is _).bind fun _ _ => Po.any.bind fun _ _ => Po.any.bind fun _ _ => .ret trivial))
theorem Po.choice : Po zhma okC := (Po.is _).bind fun _ _ => (Po.is _).bind fun _ _ => (Po.is _).bind fun v _ =>
 Po.bind (φ := fun l => l.length ≤ most) (.ite v (Po.values.bind fun l hl => (Po.ne l).mono fun x e => by subst e; show x.length ≤ 4294967296; omega) (.ret zGea)) fun l hl =>
  (Po.is _).bind fun k _ => .ite k (Po.any.bind fun _ _ => Po.hex.bind fun _ hh => .ret ⟨hl, hh⟩) (.ret ⟨hl, zGea⟩)
theorem Po.act (w : W) : Po (actP w) okA := by
 unfold actP
 split
 ·exact Po.hex.bind fun _ h => .ret ⟨h, ⟨zGea, zGea⟩, zGea⟩
 split
 ·exact Po.given.bind fun _ _ => .ret ⟨zGea, ⟨zGea, zGea⟩, zGea⟩
 split
 ·exact Po.choice.bind fun _ h => .ret ⟨zGea, h, zGea⟩
 split
 ·exact Po.any.bind fun _ _ => .ret ⟨zGea, ⟨zGea, zGea⟩, zGea⟩
 split
 ·exact Po.any.bind fun _ _ => Po.any.bind fun _ _ => Po.values.bind fun l h => .ret ⟨zGea, ⟨zGea, zGea⟩, by show l.length ≤ 4294967296; omega⟩
 split
 ·exact Po.any.bind fun _ _ => .ret ⟨zGea, ⟨zGea, zGea⟩, zGea⟩
 split
 ·exact Po.any.bind fun _ _ => Po.any.bind fun _ _ => .ret ⟨zGea, ⟨zGea, zGea⟩, zGea⟩
 ·intro ws x r _ e; cases e
theorem zNxa {ws : List W} {a : ActT} (hs : Sz ws) (h : actE ws = some a) : okA a := by
 cases ws with
 | nil => cases h
 | cons w ws =>
  have h' : endP (actP w ws) = some a := h
  cases e : actP w ws with
  | none => rw [e] at h'; cases h'
  | some q =>
   obtain ⟨x, r⟩ := q
   rw [e] at h'
   cases r with
   | cons y z => cases h'
   | nil =>
    cases h'
    exact (Po.act w ws a [] (zosa hs) e).1
theorem zRva {l : W} {a : ActT} (hl : l.length ≤ most) (h : lineA l = .act a) : okA a := by
 have hw := zfla hl
 have hw2 := (zzea l []).1
 unfold lineA at h
 split at h
 ·cases h
 ·rename_i w ws e
  split at h
  ·cases h
  ·split at h
   ·cases h
   ·rename_i x e2
    cases h
    refine zNxa ⟨?_, ?_⟩ e2
    ·rw [← e]; exact hw
    ·rw [← e]; simp only [List.length_nil] at hw2; omega
theorem zOoa : ∀ (ls : List W) (k : Nat) (out : List ActT), (∀ x ∈ ls, x.length ≤ most) → (∀ a ∈ out, okA a) → out.length ≤ k → (∀ a ∈ (zEea ls k out).1, okA a) ∧ (zEea ls k out).1.length ≤ k + ls.length
 | [], k, out, _, ho, hk => ⟨ho, by simpa [zEea] using hk⟩
 | l :: ls, k, out, hl, ho, hk => by
  have hl' : ∀ x ∈ ls, x.length ≤ most := fun x hx => hl x (List.mem_cons_of_mem _ hx)
  unfold zEea
  split
  ·exact ⟨fun a ha => (by cases ha), by simp⟩
  ·split
   ·have := zOoa ls (k + 1) out hl' ho (by omega)
    exact ⟨this.1, by have := this.2; simp only [List.length_cons]; omega⟩
   ·exact ⟨fun a ha => (by cases ha), by simp⟩
   ·rename_i a e
    have := zOoa ls (k + 1) (out ++ [a]) hl' (fun x hx => by
     rcases List.mem_append.1 hx with hx | hx
     ·exact ho x hx
     ·rw [List.mem_singleton] at hx; subst hx; exact zRva (hl l List.mem_cons_self) e) (by simp only [List.length_append, List.length_cons, List.length_nil]; omega)
    exact ⟨this.1, by have := this.2; simp only [List.length_cons]; omega⟩
def zZna (t : W) : zEra := zEea (zIba 10 t) 0 []
theorem zfra {t : W} (ht : t.length ≤ 2147483648) : (∀ a ∈ (zZna t).1, okA a) ∧ (zZna t).1.length ≤ most := by
 have hm : most = 4294967296 := rfl
 have h1 := ztka 10 t
 have := zOoa (zIba 10 t) 0 [] (fun x hx => by have := h1.2 x hx; omega) (fun a ha => by cases ha) (by simp)
 exact ⟨this.1, by have h2 := this.2; unfold zZna; omega⟩
section
variable {R : Type}
theorem zJra (kr : Bool → Option R) (kx : Option R) (l : List Int) (hl : l.length ≤ most) : ∀ (n i : Nat), l.length ≤ i + n → i ≤ l.length → loopN (zBca kr kx) (n + 1) ⟨l, l, (i : Int)⟩ = kx := by
 have hm : most = 4294967296 := rfl
 intro n
 induction n with
 | zero =>
  intro i h1 h2
  rw [znaa]
  unfold zBca
  simp only [zgaa]
  rw [if_neg (by omega)]
 | succ n ih =>
  intro i h1 h2
  rw [znaa]
  generalize loopN (zBca kr kx) (n + 1) = rec at ih ⊢
  unfold zBca
  simp only [zgaa, zOaa, zpha]
  by_cases hi : i < l.length
  ·rw [if_pos (by omega), if_pos (by omega), if_pos (by omega), if_pos trivial, w_i64 (by omega), show (i : Int) + 1 = ((i + 1 : Nat) : Int) by omega]
   exact ih (i + 1) (by omega) (by omega)
  ·rw [if_neg (by omega)]
theorem zOta (l : List Int) (hl : l.length ≤ most) (K : Bool → Option R) : zyha l l K = K true := by
 have hm : most = 4294967296 := rfl
 unfold zyha
 simp only [bne_self_eq_false, cond_false]
 obtain ⟨m, hf⟩ := zTca (l.length + 1) (by omega)
 rw [hf]
 exact zJra (fun w4 => K w4) (K true) l hl (m + l.length) 0 (by omega) (by omega)
theorem zIra (kr : Bool → Option R) (kx : Option R) (l : List Int) (hl : l.length ≤ most) : ∀ (n i : Nat), l.length ≤ i + n → i ≤ l.length → loopN (zMaa kr kx) (n + 1) ⟨l, l, (i : Int)⟩ = kx := by
 have hm : most = 4294967296 := rfl
 intro n
 induction n with
 | zero =>
  intro i h1 h2
  rw [znaa]
  unfold zMaa
  simp only [zgaa]
  rw [if_neg (by omega)]
 | succ n ih =>
  intro i h1 h2
  rw [znaa]
  generalize loopN (zMaa kr kx) (n + 1) = rec at ih ⊢
  unfold zMaa
  simp only [zgaa, zOaa, zpha]
  by_cases hi : i < l.length
  ·rw [if_pos (by omega), if_pos (by omega), if_pos (by omega), if_pos trivial, w_i64 (by omega), show (i : Int) + 1 = ((i + 1 : Nat) : Int) by omega]
   exact ih (i + 1) (by omega) (by omega)
  ·rw [if_neg (by omega)]
theorem zUqa (l : List Int) (hl : l.length ≤ most) (K : Bool → Option R) : zCba l l K = K true := by
 have hm : most = 4294967296 := rfl
 unfold zCba
 simp only [bne_self_eq_false, cond_false]
 obtain ⟨m, hf⟩ := zTca (l.length + 1) (by omega)
 rw [hf]
 exact zIra (fun w4 => K w4) (K true) l hl (m + l.length) 0 (by omega) (by omega)
theorem zHra (c : zaba) (h : okC c) (K : Bool → Option R) : zwca c c K = K true := by
 unfold zwca
 simp only [beq_self_eq_true, cond_true]
 rw [zUqa _ h.1]
 rfl
theorem zqva (a : ActT) (h : okA a) (K : Bool → Option R) : zxha a a K = K true := by
 unfold zxha
 simp only [beq_self_eq_true, cond_true, Bool.and_true]
 rw [zOta _ h.1]
 simp only [cond_true]
 rw [zHra _ h.2.1]
 simp only [cond_true]
 rw [zUqa _ h.2.2]
 rfl
theorem zfqa (kr : Bool → Option R) (kx : Option R) (l : List ActT) (hl : l.length ≤ most) (ho : ∀ a ∈ l, okA a) : ∀ (n i : Nat), l.length ≤ i + n → i ≤ l.length → loopN (zzba kr kx) (n + 1) ⟨l, l, (i : Int)⟩ = kx := by
 have hm : most = 4294967296 := rfl
 intro n
 induction n with
 | zero =>
  intro i h1 h2
  rw [znaa]
  unfold zzba
  simp only [zgaa]
  rw [if_neg (by omega)]
 | succ n ih =>
  intro i h1 h2
  rw [znaa]
  generalize loopN (zzba kr kx) (n + 1) = rec at ih ⊢
  unfold zzba
  simp only [zgaa, zOaa, zoja, Int.toNat_natCast]
  by_cases hi : i < l.length
  ·rw [if_pos (by omega), if_pos (by omega), if_pos (by omega), zqva _ (by rw [List.getD_eq_getElem?_getD, List.getElem?_eq_getElem hi]; exact ho _ (List.getElem_mem hi)), w_i64 (by omega), show (i : Int) + 1 = ((i + 1 : Nat) : Int) by omega]
   exact ih (i + 1) (by omega) (by omega)
  ·rw [if_neg (by omega)]
theorem zlpa (l : List ActT) (hl : l.length ≤ most) (ho : ∀ a ∈ l, okA a) (K : Bool → Option R) : zaca l l K = K true := by
 have hm : most = 4294967296 := rfl
 unfold zaca
 simp only [bne_self_eq_false, cond_false]
 obtain ⟨m, hf⟩ := zTca (l.length + 1) (by omega)
 rw [hf]
 exact zfqa (fun w4 => K w4) (K true) l hl ho (m + l.length) 0 (by omega) (by omega)
theorem zbva (K : Bool → Option R) : zFea K = K true := by
 unfold zFea
 rw [zNoa _ (by decide)]
 rw [show zEea (zIba 10 ([99, 97, 108, 108, 32, 102, 32, 49, 48, 48, 32, 53, 32, 55, 10] : List UInt8)) 0 [] = ([mkA 5 [] zG zC [102] [5, 7] 100 0 0], 0, 0) by kernel_rfl]
 rfl
end
theorem zvsa (a0 : List UInt8) (h0 : a0.length ≤ 140737488351232) : zrda a0 Yes = some () := by
 unfold zrda
 rw [zbva]
 simp only [Bool.not_true, cond_false, zpja]
 have hmin : ∃ k : Nat, minI ((a0.length : Nat) : Int) (100000 : Int) = (k : Int) ∧ k ≤ 100000 ∧ k ≤ a0.length := by
  unfold minI
  split
  ·exact ⟨100000, rfl, Nat.le_refl _, by omega⟩
  ·exact ⟨a0.length, rfl, by omega, Nat.le_refl _⟩
 obtain ⟨k, hk, hk1, hk2⟩ := hmin
 rw [hk, if_pos ⟨by omega, by omega, by omega⟩]
 have hl : (rng a0 (0 : Int) (k : Int)).length ≤ 100000 := by
  unfold rng
  simp only [List.length_drop, List.length_take, Int.toNat_natCast]; omega
 generalize rng a0 (0 : Int) (k : Int) = t at hl
 rw [zNoa t (by omega), zRta t (by omega)]
 have := zfra (t := t) (by omega)
 unfold zZna at this
 rw [zlpa _ this.2 this.1]
 simp only [cond_true, beq_self_eq_true]
end Go.Trm.G1
namespace Go.Trm.G1
def zwha : List W → List ActT → List ActT × Int
 | [], out => (out, 0)
 | l :: ls, out => match lineA l with
  | .no => zwha ls out
  | .bad => ([], 2)
  | .act a => zwha ls (out ++ [a])
theorem zQma : ∀ (ls : List W) (k : Nat) (out : List ActT), k + ls.length ≤ 256 → (∀ l ∈ ls, l.length ≤ 512) → ((zEea ls k out).1, (zEea ls k out).2.1) = zwha ls out
 | [], _, _, _, _ => rfl
 | l :: ls, k, out, hk, hl => by
  simp only [List.length_cons] at hk
  have h1 := hl l List.mem_cons_self
  have h2 : ∀ x ∈ ls, x.length ≤ 512 := fun x hx => hl x (List.mem_cons_of_mem _ hx)
  unfold zEea zwha
  rw [if_neg (by omega)]
  cases lineA l with
  | no => exact zQma ls (k + 1) out (by omega) h2
  | bad => rfl
  | act a => exact zQma ls (k + 1) _ (by omega) h2
section
variable (d1 d2 : Nat → Bool)
def dup1 (d : Bool) (c : UInt8) : W := if c = 32 ∧ d = true then [32, c] else [c]
def dup (d : Bool) : W → W
 | [] => []
 | c :: l => dup1 d c ++ dup d l
theorem ztta (d : Bool) : ∀ (a b : W), dup d (a ++ b) = dup d a ++ dup d b
 | [], b => rfl
 | c :: a, b => by simp only [List.cons_append, dup]; rw [ztta d a b, List.append_assoc]
theorem zXma (d : Bool) : ∀ (l acc : W), zeba acc (dup d l) = zeba acc l
 | [], acc => rfl
 | c :: l, acc => by
  unfold dup dup1
  split
  ·rename_i h
   obtain ⟨rfl, _⟩ := h
   show zeba acc (32 :: 32 :: dup d l) = zeba acc (32 :: l)
   conv => lhs; unfold zeba
   conv => rhs; unfold zeba
   rw [if_pos rfl, if_pos rfl]
   have e : zeba [] (32 :: dup d l) = zeba [] l := by
    conv => lhs; unfold zeba
    rw [if_pos rfl, if_pos rfl]
    exact zXma d l []
   rw [e]
  ·show zeba acc (c :: dup d l) = zeba acc (c :: l)
   conv => lhs; unfold zeba
   conv => rhs; unfold zeba
   rw [zXma d l [], zXma d l (acc ++ [c])]
theorem zrta (d : Bool) (l : W) : lineA (dup d l) = lineA l := by
 unfold lineA
 rw [zXma]
theorem zIqa (d : Bool) (c : UInt8) : (dup1 d c).length ≤ 2 := by unfold dup1; split <;> simp
theorem zsta (d : Bool) : ∀ l : W, (dup d l).length ≤ 2 * l.length
 | [] => by simp [dup]
 | c :: l => by
  have := zsta d l
  have h := zIqa d c
  simp only [dup, List.length_append, List.length_cons]; omega
abbrev preW : W := [35, 32, 114, 101, 97, 100, 10, 32, 10]
def dec : W → Nat → Nat → W
 | [], _, _ => []
 | c :: l, line, n => (if line = 0 ∧ d1 n = true then preW else []) ++ (dup1 (d2 n) c ++ dec l (if c = 10 then 0 else line + 1) (if c = 10 then n + 1 else n))
def okR : W → Nat → Nat → Prop
 | [], _, _ => True
 | c :: l, line, n => (if c = 10 then 0 else line + 1) ≤ 200 ∧ (if c = 10 then n + 1 else n) ≤ 80 ∧ okR l (if c = 10 then 0 else line + 1) (if c = 10 then n + 1 else n)
theorem zToa (w l : W) : zXba w (10 :: l) = w :: zXba [] l := by
 conv => lhs; unfold zXba
 rw [if_pos rfl]
theorem zzna (w l : W) {c : UInt8} (h : c ≠ 10) : zXba w (c :: l) = zXba (w ++ [c]) l := by
 conv => lhs; unfold zXba
 rw [if_neg h]
theorem zlra (d : Bool) (w l : W) {c : UInt8} (h : c ≠ 10) : zXba w (dup1 d c ++ l) = zXba (w ++ dup1 d c) l := by
 unfold dup1
 split
 ·rename_i e
  obtain ⟨rfl, _⟩ := e
  show zXba w (32 :: 32 :: l) = _
  rw [zzna _ _ (by decide), zzna _ _ (by decide), List.append_assoc]
  rfl
 ·exact zzna w l h
theorem zkra (l : W) : zXba [] (preW ++ l) = [35, 32, 114, 101, 97, 100] :: [32] :: zXba [] l := rfl
theorem pre_1 : lineA [35, 32, 114, 101, 97, 100] = .no := rfl
theorem pre_2 : lineA [32] = .no := rfl
theorem zXua (d : Bool) : dup1 d 10 = [10] := by unfold dup1; rw [if_neg (fun h => absurd h.1 (by decide))]
theorem zLqa : ∀ (l : W) (line n : Nat) (w : W) (out : List ActT), line = w.length → zwha (zXba (dup (d2 n) w) (dec d1 d2 l line n)) out = zwha (zXba w l) out
 | [], line, n, w, out, _ => by
  show zwha [dup (d2 n) w] out = zwha [w] out
  unfold zwha
  rw [zrta]
 | c :: l, line, n, w, out, hw => by
  have key : ∀ w' : W, w' = dup (d2 n) w → zwha (zXba w' (dup1 (d2 n) c ++ dec d1 d2 l (if c = 10 then 0 else line + 1) (if c = 10 then n + 1 else n))) out = zwha (zXba w (c :: l)) out := by
   intro w' hw'
   by_cases hc : c = 10
   ·subst hc
    rw [if_pos rfl, if_pos rfl, zXua]
    show zwha (zXba w' (10 :: dec d1 d2 l 0 (n + 1))) out = _
    rw [zToa, zToa]
    have ih := fun o => zLqa l 0 (n + 1) [] o rfl
    simp only [dup] at ih
    unfold zwha
    rw [hw', zrta]
    cases lineA w with
    | no => exact ih out
    | bad => rfl
    | act a => exact ih _
   ·rw [if_neg hc, if_neg hc, zlra _ _ _ hc, zzna _ _ hc]
    have ih := zLqa l (line + 1) n (w ++ [c]) out (by simp [hw])
    rw [ztta] at ih
    have e : dup (d2 n) [c] = dup1 (d2 n) c := by simp [dup]
    rw [e] at ih
    rw [hw']
    exact ih
  unfold dec
  by_cases h0 : line = 0 ∧ d1 n = true
  ·rw [if_pos h0]
   obtain ⟨h0, _⟩ := h0
   have : w = [] := List.eq_nil_of_length_eq_zero (by omega)
   subst this
   show zwha (zXba [] (preW ++ _)) out = _
   rw [zkra]
   have e1 : ∀ x, zwha ([35, 32, 114, 101, 97, 100] :: [32] :: x) out = zwha x out := fun x => by
    conv => lhs; unfold zwha
    rw [pre_1]
    show zwha ([32] :: x) out = _
    conv => lhs; unfold zwha
    rw [pre_2]
   rw [e1]
   exact key [] rfl
  ·rw [if_neg h0]
   exact key _ rfl
theorem zdpa : ∀ (l : W) (line n : Nat) (w : W), line = w.length → line ≤ 200 → n ≤ 80 → okR l line n →
  (zXba (dup (d2 n) w) (dec d1 d2 l line n)).length ≤ 3 * (80 - n) + (if line = 0 then 3 else 1) ∧ ∀ x ∈ zXba (dup (d2 n) w) (dec d1 d2 l line n), x.length ≤ 512
 | [], line, n, w, hw, hl, hn, _ => by
  have := zsta (d2 n) w
  refine ⟨?_, fun x hx => ?_⟩
  ·show 1 ≤ _; split <;> omega
  ·have : x = dup (d2 n) w := by simpa [dec, zXba] using hx
   subst this; omega
 | c :: l, line, n, w, hw, hl, hn, ho => by
  obtain ⟨o1, o2, o3⟩ := ho
  have key : ∀ w' : W, w' = dup (d2 n) w → (zXba w' (dup1 (d2 n) c ++ dec d1 d2 l (if c = 10 then 0 else line + 1) (if c = 10 then n + 1 else n))).length ≤ 3 * (80 - n) + 1 ∧ ∀ x ∈ zXba w' (dup1 (d2 n) c ++ dec d1 d2 l (if c = 10 then 0 else line + 1) (if c = 10 then n + 1 else n)), x.length ≤ 512 := by
   intro w' hw'
   have hwl := zsta (d2 n) w
   by_cases hc : c = 10
   ·subst hc
    rw [if_pos rfl, if_pos rfl] at o3 ⊢
    rw [if_pos rfl] at o2
    rw [zXua]
    show (zXba w' (10 :: dec d1 d2 l 0 (n + 1))).length ≤ _ ∧ ∀ x ∈ zXba w' (10 :: dec d1 d2 l 0 (n + 1)), _
    rw [zToa]
    have ih := zdpa l 0 (n + 1) [] rfl (by omega) o2 o3
    simp only [dup, if_true] at ih
    refine ⟨by have := ih.1; simp only [List.length_cons]; omega, fun x hx => ?_⟩
    rcases List.mem_cons.1 hx with hx | hx
    ·subst hx; subst hw'; omega
    ·exact ih.2 x hx
   ·rw [if_neg hc] at o1 o2
    rw [if_neg hc, if_neg hc] at o3 ⊢
    rw [zlra _ _ _ hc]
    have ih := zdpa l (line + 1) n (w ++ [c]) (by simp [hw]) o1 o2 o3
    rw [ztta] at ih
    have e : dup (d2 n) [c] = dup1 (d2 n) c := by simp [dup]
    rw [e, if_neg (by omega)] at ih
    rw [hw']
    exact ih
  unfold dec
  by_cases h0 : line = 0 ∧ d1 n = true
  ·rw [if_pos h0, if_pos h0.1]
   have : w = [] := List.eq_nil_of_length_eq_zero (by omega)
   subst this
   show (zXba [] (preW ++ _)).length ≤ _ ∧ ∀ x ∈ zXba [] (preW ++ _), _
   rw [zkra]
   have k := key [] rfl
   refine ⟨by have := k.1; simp only [List.length_cons]; omega, fun x hx => ?_⟩
   rcases List.mem_cons.1 hx with hx | hx
   ·subst hx; decide
   rcases List.mem_cons.1 hx with hx | hx
   ·subst hx; decide
   ·exact k.2 x hx
  ·rw [if_neg h0]
   have k := key _ rfl
   have h3 : 1 ≤ (if line = 0 then 3 else 1) := by split <;> omega
   exact ⟨Nat.le_trans k.1 (by omega), k.2⟩
theorem zYua : ∀ (l : W) (line n : Nat), (dec d1 d2 l line n).length ≤ 11 * l.length
 | [], _, _ => by simp [dec]
 | c :: l, line, n => by
  have ih := zYua l (if c = 10 then 0 else line + 1) (if c = 10 then n + 1 else n)
  have h := zIqa (d2 n) c
  unfold dec
  simp only [List.length_append, List.length_cons]
  split
  ·simp only [List.length_cons, List.length_nil]; omega
  ·simp only [List.length_nil]; omega
end
theorem zbna : ∀ (l : W) (line n : Nat) (w : W), line = w.length → line ≤ 200 → n ≤ 80 → okR l line n → (zXba w l).length ≤ 81 - n ∧ ∀ x ∈ zXba w l, x.length ≤ 512
 | [], line, n, w, hw, hl, hn, _ => by
  refine ⟨by show 1 ≤ _; omega, fun x hx => ?_⟩
  have : x = w := by simpa [zXba] using hx
  subst this; omega
 | c :: l, line, n, w, hw, hl, hn, ho => by
  obtain ⟨o1, o2, o3⟩ := ho
  by_cases hc : c = 10
  ·subst hc
   rw [if_pos rfl, if_pos rfl] at o3
   rw [if_pos rfl] at o2
   rw [zToa]
   have ih := zbna l 0 (n + 1) [] rfl (by omega) o2 o3
   refine ⟨by have := ih.1; simp only [List.length_cons]; omega, fun x hx => ?_⟩
   rcases List.mem_cons.1 hx with hx | hx
   ·subst hx; omega
   ·exact ih.2 x hx
  ·rw [if_neg hc] at o1 o2
   rw [if_neg hc, if_neg hc] at o3
   rw [zzna _ _ hc]
   exact zbna l (line + 1) n (w ++ [c]) (by simp [hw]) o1 o2 o3
theorem zasa (d1 d2 : Nat → Bool) (t : W) (ho : okR t 0 0) : (zZna (dec d1 d2 t 0 0)).1 = (zZna t).1 ∧ (zZna (dec d1 d2 t 0 0)).2.1 = (zZna t).2.1 := by
 have h1 := zdpa d1 d2 t 0 0 [] rfl (by omega) (by omega) ho
 have h2 := zbna t 0 0 [] rfl (by omega) (by omega) ho
 have h3 := zLqa d1 d2 t 0 0 [] [] rfl
 simp only [dup, if_true] at h1 h3
 have e1 := zQma _ 0 [] (by have := h1.1; omega) h1.2
 have e2 := zQma _ 0 [] (by have := h2.1; omega) h2.2
 unfold zZna
 rw [zvqa] at e1 e2 h3
 rw [zvqa] at h3
 have e := e1.trans (h3.trans e2.symm)
 exact ⟨(Prod.mk.inj e).1, (Prod.mk.inj e).2⟩
section
variable {R : Type}
def bv (bl : List Int) (n : Nat) : Int := if n < bl.length then bl.getD n 0 else 0
def q1 (bl : List Int) (n : Nat) : Bool := IntKind.u8.wrap ((BitVec.ofInt IntKind.u8.bits (bv bl n) &&& BitVec.ofInt IntKind.u8.bits (1 : Int)).toNat) == (1 : Int)
def q2 (bl : List Int) (n : Nat) : Bool := IntKind.u8.wrap ((BitVec.ofInt IntKind.u8.bits (bv bl n) &&& BitVec.ofInt IntKind.u8.bits (2 : Int)).toNat) == (2 : Int)
theorem bt32 (b : UInt8) : ((b.toNat : Int) == (32 : Int)) = decide (b = 32) := by
 by_cases h : b = 32
 ·subst h; rfl
 ·have : ¬ (b.toNat : Int) = 32 := fun e => h (UInt8.toNat_inj.1 (by show b.toNat = 32; omega))
  simp [h, this]
theorem bt10 (b : UInt8) : ((b.toNat : Int) == (10 : Int)) = decide (b = 10) := by
 by_cases h : b = 10
 ·subst h; rfl
 ·have : ¬ (b.toNat : Int) = 10 := fun e => h (UInt8.toNat_inj.1 (by show b.toNat = 10; omega))
  simp [h, this]
theorem znya (k : W → List Int → W → Int → Int → Int → Int → Option R) (t : W) (bl : List Int) (s : W) (line n i : Nat) :
  ztba k ⟨t, bl, s, (line : Int), (n : Int), (i : Int), (0 : Int)⟩ = k t bl s (line : Int) (n : Int) (i : Int) (bv bl n) := by
 unfold ztba bv
 simp only [zgaa, zOaa, Int.toNat_natCast]
 by_cases h : n < bl.length
 ·rw [if_pos (by omega), if_pos (by omega), if_pos h]
 ·rw [if_neg (by omega), if_neg h]
theorem zmya (k : W → List Int → W → Int → Int → Int → Int → Option R) (t : W) (bl : List Int) (s : W) (line n i : Nat) (hs : s.length ≤ 1000000) :
  zsba k ⟨t, bl, s, (line : Int), (n : Int), (i : Int), bv bl n⟩ = k t bl (s ++ (if line = 0 ∧ q1 bl n = true then preW else [])) (line : Int) (n : Int) (i : Int) (bv bl n) := by
 have hm : most = 4294967296 := rfl
 unfold zsba
 by_cases h : line = 0
 ·subst h
  show cond (q1 bl n) (cond (decide (s.length + 9 ≤ most)) (k t bl (s ++ preW) _ _ _ _) none) _ = _
  cases hq : q1 bl n with
  | true => simp only [cond_true, zgaa, and_self, if_true]; rw [if_pos (by omega)]
  | false => simp
 ·rw [if_neg (fun x => h x.1), List.append_nil]
  simp only [zdfa]
  rw [if_neg (by omega)]
theorem zlya (k : W → List Int → W → Int → Int → Int → Option R) (t : W) (bl : List Int) (s : W) (line n i : Nat) (hi : i < t.length) (hs : s.length ≤ 1000100) :
  zrba k ⟨t, bl, s, (line : Int), (n : Int), (i : Int), bv bl n⟩ = k t bl (s ++ (if t.getD i 0 = 32 ∧ q2 bl n = true then [32] else [])) (line : Int) (n : Int) (i : Int) := by
 have hm : most = 4294967296 := rfl
 unfold zrba
 simp only [zOaa]
 rw [if_pos (by omega), bt_at, bt32]
 by_cases h : t.getD i 0 = 32
 ·simp only [h, decide_true, cond_true, true_and]
  show cond (q2 bl n) (cond (decide (s.length + 1 ≤ most)) (k t bl (s ++ [32]) _ _ _) none) _ = _
  cases hq : q2 bl n with
  | true => simp only [cond_true, zgaa, if_true]; rw [if_pos (by omega)]
  | false => simp
 ·simp only [h, decide_false, cond_false, false_and, if_false, List.append_nil]
theorem zkya (k : W → List Int → W → Int → Int → Int → Option R) (t : W) (bl : List Int) (s : W) (line n i : Nat) (hi : i < t.length) (hn : n ≤ 80) :
  zqba k ⟨t, bl, s, ((line + 1 : Nat) : Int), (n : Int), (i : Int)⟩ = k t bl s ((if t.getD i 0 = 10 then 0 else line + 1 : Nat) : Int) ((if t.getD i 0 = 10 then n + 1 else n : Nat) : Int) (i : Int) := by
 unfold zqba
 simp only [zOaa]
 rw [if_pos (by omega), bt_at, bt10, w_i64 (by omega)]
 by_cases h : t.getD i 0 = 10
 ·simp only [h, decide_true, cond_true, if_true]; rfl
 ·simp only [h, decide_false, cond_false, if_false]
theorem zZra (kr : Bool → Option R) (kn : W → List Int → W → Int → Int → Int → Option R) (t : W) (bl : List Int) (s : W) (line n i : Nat) (hi : i < t.length) (ht : t.length ≤ 20000) (hs : s.length ≤ 1000000) (hl : line ≤ 200) (hn : n ≤ 80) :
  zFba kr kn ⟨t, bl, s, (line : Int), (n : Int), (i : Int)⟩ =
   if 200 < (if t.getD i 0 = 10 then 0 else line + 1) then kr true else if 80 < (if t.getD i 0 = 10 then n + 1 else n) then kr true
   else kn t bl (s ++ ((if line = 0 ∧ q1 bl n = true then preW else []) ++ dup1 (q2 bl n) (t.getD i 0))) ((if t.getD i 0 = 10 then 0 else line + 1 : Nat) : Int) ((if t.getD i 0 = 10 then n + 1 else n : Nat) : Int) (i : Int) := by
 have hm : most = 4294967296 := rfl
 unfold zFba
 rw [znya]
 simp only
 rw [zmya _ _ _ _ _ _ _ hs]
 have hp : (if line = 0 ∧ q1 bl n = true then preW else []).length ≤ 9 := by split <;> simp
 have hd : ∀ c : UInt8, (if c = 32 ∧ q2 bl n = true then ([32] : W) else []).length ≤ 1 := by intro c; split <;> simp
 rw [zlya _ _ _ _ _ _ _ hi (by simp only [List.length_append]; omega)]
 simp only [zpja]
 rw [w_i64 (n := ((i : Int) + 1)) (by omega), show (i : Int) + 1 = ((i + 1 : Nat) : Int) by omega, zxsa t i hi, if_pos ⟨by omega, by omega, by omega⟩]
 simp only [zgaa]
 have h1 := hd (t.getD i 0)
 rw [if_pos (by simp only [List.length_append, List.length_cons, List.length_nil]; omega), w_i64 (n := ((line : Int) + 1)) (by omega), show (line : Int) + 1 = ((line + 1 : Nat) : Int) by omega, zkya _ _ _ _ _ _ _ hi hn]
 have e : s ++ (if line = 0 ∧ q1 bl n = true then preW else []) ++ (if t.getD i 0 = 32 ∧ q2 bl n = true then [32] else []) ++ [t.getD i 0] = s ++ ((if line = 0 ∧ q1 bl n = true then preW else []) ++ dup1 (q2 bl n) (t.getD i 0)) := by
  unfold dup1
  by_cases h : t.getD i 0 = 32 ∧ q2 bl n = true
  ·rw [if_pos h, if_pos h]; simp
  ·rw [if_neg h, if_neg h]; simp
 rw [e]
 generalize (if t.getD i 0 = 10 then 0 else line + 1) = A
 generalize (if t.getD i 0 = 10 then n + 1 else n) = B
 by_cases hA : 200 < A
 ·rw [if_pos hA, if_pos (by omega)]
 rw [if_neg hA, if_neg (by omega)]
 by_cases hB : 80 < B
 ·rw [if_pos hB, if_pos (by omega)]
 rw [if_neg hB, if_neg (by omega)]
theorem zbsa (kr : Bool → Option R) (kx : W → W → Option R) (t : W) (bl : List Int) (ht : t.length ≤ 20000) : ∀ (m i line n : Nat) (s : W), t.length ≤ i + m → i ≤ t.length → s.length ≤ 11 * i → line ≤ 200 → n ≤ 80 →
  loopN (ztaa kr kx) (m + 1) ⟨t, bl, s, (line : Int), (n : Int), (i : Int)⟩ = kr true ∨
   (okR (t.drop i) line n ∧ loopN (ztaa kr kx) (m + 1) ⟨t, bl, s, (line : Int), (n : Int), (i : Int)⟩ = kx t (s ++ dec (q1 bl) (q2 bl) (t.drop i) line n)) := by
 intro m
 induction m with
 | zero =>
  intro i line n s h1 h2 h3 h4 h5
  right
  rw [List.drop_of_length_le (by omega)]
  refine ⟨trivial, ?_⟩
  rw [znaa]
  unfold ztaa
  simp only [zgaa]
  rw [if_neg (by omega)]
  unfold dec
  rw [List.append_nil]
 | succ m ih =>
  intro i line n s h1 h2 h3 h4 h5
  rw [znaa]
  generalize loopN (ztaa kr kx) (m + 1) = rec at ih ⊢
  unfold ztaa
  simp only [zgaa]
  by_cases hi : i < t.length
  case neg =>
   right
   rw [List.drop_of_length_le (by omega)]
   refine ⟨trivial, ?_⟩
   rw [if_neg (by omega)]
   unfold dec
   rw [List.append_nil]
  rw [if_pos (by omega), zZra _ _ _ _ _ _ _ _ hi ht (by omega) h4 h5, zFda t i 0 hi]
  have hd := zIqa (q2 bl n) (t.getD i 0)
  generalize t.getD i 0 = c at hd
  by_cases hA : 200 < (if c = 10 then 0 else line + 1)
  ·left; rw [if_pos hA]
  rw [if_neg hA]
  by_cases hB : 80 < (if c = 10 then n + 1 else n)
  ·left; rw [if_pos hB]
  rw [if_neg hB, w_i64 (by omega), show (i : Int) + 1 = ((i + 1 : Nat) : Int) by omega]
  have hp : (if line = 0 ∧ q1 bl n = true then preW else []).length ≤ 9 := by split <;> simp
  rcases ih (i + 1) (if c = 10 then 0 else line + 1) (if c = 10 then n + 1 else n) (s ++ ((if line = 0 ∧ q1 bl n = true then preW else []) ++ dup1 (q2 bl n) c)) (by omega) (by omega) (by simp only [List.length_append]; omega) (by omega) (by omega) with e | ⟨e1, e2⟩
  ·left; exact e
  ·right
   refine ⟨⟨by omega, by omega, e1⟩, ?_⟩
   rw [e2]
   conv => rhs; unfold dec
   rw [List.append_assoc, List.append_assoc]
end
theorem scriptBlanks_pure (a0 : List UInt8) (a1 : List Int) : zTba a0 a1 Yes = some () := by
 unfold zTba
 rw [zbva]
 simp only [Bool.not_true, cond_false, zgaa]
 by_cases h : a0.length ≤ 20000
 case neg => rw [if_pos (by omega)]; rfl
 rw [if_neg (by omega)]
 obtain ⟨m, hf⟩ := zTca (a0.length + 1) (by omega)
 rw [hf]
 rcases zbsa (R := Unit) (fun w5 => Yes w5) (fun w6 w7 => zXaa w6 fun r8 r9 r10 => zXaa w7 fun r11 r12 r13 => cond (r9 == r12) (zaca r8 r11 fun r15 => Yes r15) (Yes false)) a0 a1 h (m + a0.length) 0 0 0 [] (by omega) (by omega) (by simp) (by omega) (by omega) with e | ⟨e1, e2⟩
 ·exact e
 ·refine e2.trans ?_
  rw [List.drop_zero] at e1 ⊢
  rw [List.nil_append]
  have hl := zYua (q1 a1) (q2 a1) a0 0 0
  rw [zNoa a0 (by omega), zNoa _ (by omega)]
  obtain ⟨s1, s2⟩ := zasa (q1 a1) (q2 a1) a0 e1
  have ok := zfra (t := a0) (by omega)
  unfold zZna at s1 s2 ok
  rw [s1, s2, zlpa _ ok.2 ok.1]
  simp only [beq_self_eq_true, cond_true]
end Go.Trm.G1
