import Derived.Test.YtiooemenojlbjaaGreatTrmOps2
set_option linter.unusedVariables false
set_option linter.unusedSimpArgs false
namespace Go.Trm

theorem rep_moreF {F F' : Blks} {w : World} (hF : ∀ b, F b → F' b) {t : Ty} {m : Md} {x : t.I} {c : Cells} {fp : Blks} (h : rep F w t m x c fp) : rep F' w t m x c fp :=
  rep_frame hF (fun _ _ => rfl) (fun _ _ => rfl) h

theorem melt_s {F : Blks} {w : World} {t : Ty} {m : Md} {x : t.I} {c : Cells} {fq : Blks} (h : rep F w t m x c fq) (hm : m.noJ = true) : ∃ fp' : Blks, (∀ b, fp' b → fq b) ∧ rep (fun b => F b ∨ (fq b ∧ ¬ fp' b)) w t .s x c fp' :=
  ⟨fun _ => False, fun _ h => h.elim, rep_freeze (fun _ hb => .inl hb) h hm (fun _ hb => .inr ⟨hb, fun h => h⟩)⟩

theorem rep_melt {F : Blks} {w : World} : ∀ {t : Ty} {m m' : Md} {x : t.I} {c : Cells} {fq : Blks}, rep F w t m x c fq → m'.le m = true → ∃ fp' : Blks, (∀ b, fp' b → fq b) ∧ rep (fun b => F b ∨ (fq b ∧ ¬ fp' b)) w t m' x c fp' := by
  intro t
  induction t with
  | sl e t ih =>
    intro m m' (x : List t.I) c fq h hl
    cases m' with
    | s => exact melt_s h hl
    | j => cases hl
    | p _ _ =>
      cases m with
      | p _ _ =>
        simp only [rep] at h ⊢
        obtain ⟨A, cap, h1, h2, h3, h4, r⟩ := h
        exact ⟨fq, fun _ h => h, A, cap, h1, h2, h3, h4, fun a ha => ((r a ha).2).elim⟩
      | _ => cases hl
    | o m' =>
      cases m with
      | o m =>
        have hl : m'.le m = true := hl
        simp only [rep] at h
        obtain ⟨A, cap, h1, h2, h3, h4, r⟩ := h
        cases A with
        | none =>
          refine ⟨fq, fun _ h => h, ?_⟩
          simp only [rep]
          exact ⟨none, cap, h1, h2, h3, h4, fun a ha => by cases ha⟩
        | some a =>
          obtain ⟨hsp, r1, r2, fs, r3, r4, r5⟩ := r a rfl
          have hch : ∀ i, ∃ fp' : Blks, (∀ b, fp' b → fs i b) ∧ (i < x.length → rep (fun b => F b ∨ (fs i b ∧ ¬ fp' b)) w t m' (x.getD i t.dflt) (rowW w a.block (a.off + i * t.size)) fp') := fun i => by
            by_cases hi : i < x.length
            · obtain ⟨fp', g1, g2⟩ := ih (r5 i hi) hl
              exact ⟨fp', g1, fun _ => g2⟩
            · exact ⟨fun _ => False, fun _ h => h.elim, fun h => absurd h hi⟩
          have hfs := Classical.axiomOfChoice hch
          obtain ⟨fs', hfs⟩ := hfs
          refine ⟨fun b => b = a.block ∨ ∃ i, fs' i b, fun b hb => ?_, ?_⟩
          · rcases hb with rfl | ⟨i, hb⟩
            · exact r1
            · exact (r4 i b ((hfs i).1 b hb)).1
          · simp only [rep]
            refine ⟨some a, cap, h1, h2, h3, h4, fun a' ha' => ?_⟩
            cases ha'
            refine ⟨hsp, .inl rfl, r2, fs', ⟨fun i j hij b hb hb' => r3.disj i j hij b ((hfs i).1 b hb) ((hfs j).1 b hb')⟩, fun i b hb => ⟨.inr ⟨i, hb⟩, (r4 i b ((hfs i).1 b hb)).2⟩, fun i hi => ?_⟩
            refine rep_moreF (fun b hb => ?_) ((hfs i).2 hi)
            rcases hb with hb | ⟨hb, hn⟩
            · exact .inl hb
            · refine .inr ⟨(r4 i b hb).1, ?_⟩
              rintro (hc | ⟨j, hc⟩)
              · exact (r4 i b hb).2 hc
              · by_cases hij : i = j
                · subst hij; exact hn hc
                · exact r3.disj i j hij b hb ((hfs j).1 b hc)
      | _ => cases hl
  | ptr e t ih =>
    intro m m' x c fq h hl
    cases m' with
    | s => exact melt_s h hl
    | j => cases hl
    | p _ _ =>
      cases m with
      | p _ _ =>
        simp only [rep] at h ⊢
        obtain ⟨A, h1, r⟩ := h
        refine ⟨fq, fun _ h => h, A, h1, ?_⟩
        cases x with
        | none => exact r
        | some y => obtain ⟨a, ha, hsp, r⟩ := r; exact r.elim
      | _ => cases hl
    | o m' =>
      cases m with
      | o m =>
        have hl : m'.le m = true := hl
        simp only [rep] at h
        obtain ⟨A, h1, r⟩ := h
        cases x with
        | none =>
          refine ⟨fq, fun _ h => h, ?_⟩
          simp only [rep]
          exact ⟨A, h1, r⟩
        | some y =>
          obtain ⟨a, ha, hsp, r1, r2, f, r4, r5⟩ := r
          obtain ⟨fp', g1, g2⟩ := ih r5 hl
          refine ⟨fun b => b = a.block ∨ fp' b, fun b hb => ?_, ?_⟩
          · rcases hb with rfl | hb
            · exact r1
            · exact (r4 b (g1 b hb)).1
          · simp only [rep]
            refine ⟨A, h1, a, ha, hsp, .inl rfl, r2, fp', fun b hb => ⟨.inr hb, (r4 b (g1 b hb)).2⟩, rep_moreF (fun b hb => ?_) g2⟩
            rcases hb with hb | ⟨hb, hn⟩
            · exact .inl hb
            · refine .inr ⟨(r4 b hb).1, ?_⟩
              rintro (hc | hc)
              · exact (r4 b hb).2 hc
              · exact hn hc
      | _ => cases hl
  | pair a b iha ihb =>
    intro m m' x c fq h hl
    obtain ⟨fa, fb, h1, h2, h3, ra, rb⟩ := rep_pair h
    have hle : m' = .s ∨ (m'.fst.le m.fst = true ∧ m'.snd.le m.snd = true) := by
      cases m' with
      | s => exact .inl rfl
      | j => cases hl
      | o a' => cases m <;> first | (cases hl; done) | exact .inr ⟨hl, hl⟩
      | p a' b' => cases m <;> first | (cases hl; done) | (simp only [Md.le, Bool.and_eq_true] at hl; exact .inr hl)
    rcases hle with rfl | ⟨l1, l2⟩
    · exact melt_s h hl
    · obtain ⟨fa', ga1, ga2⟩ := iha ra l1
      obtain ⟨fb', gb1, gb2⟩ := ihb rb l2
      have hj : m' ≠ .j := by rintro rfl; cases hl
      refine ⟨fun q => fa' q ∨ fb' q, fun q hq => ?_, ?_⟩
      · rcases hq with hq | hq
        · exact h1 _ (ga1 _ hq)
        · exact h2 _ (gb1 _ hq)
      · have key : ∃ fa fb : Blks, (∀ i, fa i → (fun q => fa' q ∨ fb' q) i) ∧ (∀ i, fb i → (fun q => fa' q ∨ fb' q) i) ∧ (∀ i, fa i → ¬ fb i) ∧
            rep (fun q => F q ∨ (fq q ∧ ¬ (fa' q ∨ fb' q))) w a m'.fst x.1 c fa ∧ rep (fun q => F q ∨ (fq q ∧ ¬ (fa' q ∨ fb' q))) w b m'.snd x.2 (fun j => c (a.size + j)) fb := by
          refine ⟨fa', fb', fun _ h => .inl h, fun _ h => .inr h, fun i hi hi' => h3 i (ga1 i hi) (gb1 i hi'), rep_moreF (fun q hq => ?_) ga2, rep_moreF (fun q hq => ?_) gb2⟩
          · rcases hq with hq | ⟨hq, hn⟩
            · exact .inl hq
            · exact .inr ⟨h1 q hq, fun hc => hc.elim hn (fun hc => h3 q hq (gb1 q hc))⟩
          · rcases hq with hq | ⟨hq, hn⟩
            · exact .inl hq
            · exact .inr ⟨h2 q hq, fun hc => hc.elim (fun hc => h3 q (ga1 q hc) hq) hn⟩
        cases m' with
        | j => exact absurd rfl hj
        | _ => simpa only [rep] using key
  | arr n t ih =>
    intro m m' x c fq h hl
    have hle : m' = .s ∨ m'.el.le m.el = true := by
      cases m' with
      | s => exact .inl rfl
      | j => cases hl
      | o a' => cases m <;> first | (cases hl; done) | exact .inr hl
      | p a' b' => cases m <;> first | (cases hl; done) | exact .inr hl
    rcases hle with rfl | hle
    · exact melt_s h hl
    · have hj : m' ≠ .j := by rintro rfl; cases hl
      have hj0 : m ≠ .j := by
        rintro rfl
        cases m' <;> cases hl
      have key : List.length (x : List t.I) = n ∧ ∃ fs : Nat → Blks, Disj fs ∧ (∀ i b, fs i b → fq b) ∧ ∀ i, i < n → rep F w t m.el (List.getD (x : List t.I) i t.dflt) (fun j => c (i * t.size + j)) (fs i) := by
        cases m with
        | j => exact absurd rfl hj0
        | _ => simpa only [rep] using h
      obtain ⟨hn, fs, hd, h2, r⟩ := key
      have hch : ∀ i, ∃ fp' : Blks, (∀ b, fp' b → fs i b) ∧ (i < n → rep (fun b => F b ∨ (fs i b ∧ ¬ fp' b)) w t m'.el (List.getD (x : List t.I) i t.dflt) (fun j => c (i * t.size + j)) fp') := fun i => by
        by_cases hi : i < n
        · obtain ⟨fp', g1, g2⟩ := ih (r i hi) hle
          exact ⟨fp', g1, fun _ => g2⟩
        · exact ⟨fun _ => False, fun _ h => h.elim, fun h => absurd h hi⟩
      obtain ⟨fs', hfs⟩ := Classical.axiomOfChoice hch
      refine ⟨fun b => ∃ i, fs' i b, fun b ⟨i, hb⟩ => h2 i b ((hfs i).1 b hb), ?_⟩
      have key2 : List.length (x : List t.I) = n ∧ ∃ fs2 : Nat → Blks, Disj fs2 ∧ (∀ i b, fs2 i b → (fun b => ∃ i, fs' i b) b) ∧ ∀ i, i < n → rep (fun b => F b ∨ (fq b ∧ ¬ ∃ i, fs' i b)) w t m'.el (List.getD (x : List t.I) i t.dflt) (fun j => c (i * t.size + j)) (fs2 i) := by
        refine ⟨hn, fs', ⟨fun i j hij b hb hb' => hd.disj i j hij b ((hfs i).1 b hb) ((hfs j).1 b hb')⟩, fun i b hb => ⟨i, hb⟩, fun i hi => rep_moreF (fun b hb => ?_) ((hfs i).2 hi)⟩
        rcases hb with hb | ⟨hb, hn⟩
        · exact .inl hb
        · refine .inr ⟨h2 i b hb, ?_⟩
          rintro ⟨j, hc⟩
          by_cases hij : i = j
          · subst hij; exact hn hc
          · exact hd.disj i j hij b hb ((hfs j).1 b hc)
      cases m' with
      | j => exact absurd rfl hj
      | _ => simpa only [rep] using key2
  | _ =>
    intro m m' x c fq h hl
    have hj0 : m ≠ .j := by
      rintro rfl
      cases m' <;> cases hl
    refine ⟨fun _ => False, fun _ h => h.elim, ?_⟩
    cases m' <;> first | (cases hl; done) | (cases m <;> first | exact absurd rfl hj0 | (simp only [rep] at h ⊢; first | exact h | exact trivial) | (simp only [rep]))
theorem Md.le_noJ : ∀ {m' m : Md}, m'.le m = true → m'.noJ = true
  | .s, _, _ => rfl
  | .j, m, h => by cases m <;> cases h
  | .o a, m, h => by
    cases m <;> first | (cases h; done) | exact Md.le_noJ (m' := a) h
  | .p a b, m, h => by
    cases m <;> first | (cases h; done) | (simp only [Md.le, Bool.and_eq_true] at h; simp only [Md.noJ, Bool.and_eq_true]; exact ⟨Md.le_noJ h.1, Md.le_noJ h.2⟩)

section
variable {P : Program} {env : Env} {e : Entry} {F : Blks} {w : World} {st : St} {V : Nat → Value} {fp : Nat → Blks} {fl : Blks} {a : Act} {T : TypeId} {x : Operand} {α R : Type} {K : α → St → Option R} {res : R} {C : Cx R} {gh : Nat → Value}

/-- what is on its way gets another mode -/
theorem melt_float {t : Ty} {m m' : Md} {y : t.I} {c : Cells} {fq : Blks} (hS : SR e F w st V fp fl) (hrep : rep F w t m y c fq) (hq : ∀ b, fq b → fl b) (hl : m'.le m = true) :
    ∃ fq' F' : Blks, SR e F' w st V fp (fun b => fl b ∧ (fq b → fq' b)) ∧ rep F' w t m' y c fq' ∧ (∀ b, F b → F' b) ∧ (∀ b, fq' b → fq b) := by
  obtain ⟨fq', g1, g2⟩ := rep_melt hrep hl
  refine ⟨fq', _, hS.moreF (fl' := fun b => fl b ∧ (fq b → fq' b)) (fun b hb => .inl hb) (fun b hb => hb.imp id (fun h => hq b h.1)) (fun b hb => hb.1) (fun b hb hc => ?_), g2, fun b hb => .inl hb, g1⟩
  rcases hc with hc | hc
  · exact hS.flF b hb.1 hc
  · exact hc.2 (hb.2 hc.1)

theorem take_melt {val : Value} {t : Ty} {m m' : Md} {y : t.I} {src : Src} {k : RM α} (hS : SR e F w st V fp fl) (hd : DataAt F w st V val t m y src) (hl : m'.le m = true) (h : (take src k).run C st K = some res) :
    ∃ st' fp' fq, ∃ F' : Blks, k.run C st' K = some res ∧ SR e F' w st' V fp' (fun b => fl b ∨ fq b) ∧ (∀ b, F b → F' b) ∧ isV t val ∧ m' ≠ .j ∧ rep F' w t m' y (cv val) fq ∧ (∀ b, fq b → ¬ fl b) ∧ (∀ r', src = none ∨ (∃ r p, src = some (r, p) ∧ r' ≠ r) → ∀ t0 m0 x0, st' r' = .v t0 m0 x0 ↔ st r' = .v t0 m0 x0) := by
  obtain ⟨st', fp', fq, h1, h2, h3, h4, h5, h6, h7⟩ := take_inv hS hd h
  obtain ⟨fq', F', g1, g2, g3, g4⟩ := melt_float h2 h5 (fun b hb => .inr hb) hl
  refine ⟨st', fp', fq', F', h1, g1.less (fun b hb => ?_), g3, h3, ?_, g2, fun b hb => h6 b (g4 b hb), h7⟩
  · rcases hb with hb | hb
    · exact ⟨.inl hb, fun hc => absurd hb (h6 b hc)⟩
    · exact ⟨.inr (g4 b hb), fun _ => hb⟩
  · rintro rfl; have := Md.le_noJ hl; cases this

theorem meltP_inv {t : Ty} {m : Md} {y : t.I} {c : Cells} {fq : Blks} {r : Nat} {p : List PE} {k : Md → RM α} (hS : SR e F w st V fp fl) (hrep : rep F w t m y c fq) (hq : ∀ b, fq b → fl b) (hm : m.noJ = true) (h : (meltP r p m k).run C st K = some res) :
    ∃ m' fq', ∃ F' fl' : Blks, (k m').run C st K = some res ∧ SR e F' w st V fp fl' ∧ rep F' w t m' y c fq' ∧ (∀ b, fq' b → fl' b) ∧ m'.noJ = true ∧ (∀ b, F b → F' b) := by
  have hsame : (k m).run C st K = some res → ∃ m' fq', ∃ F' fl' : Blks, (k m').run C st K = some res ∧ SR e F' w st V fp fl' ∧ rep F' w t m' y c fq' ∧ (∀ b, fq' b → fl' b) ∧ m'.noJ = true ∧ (∀ b, F b → F' b) :=
    fun h => ⟨m, fq, F, fl, h, hS, hrep, hq, hm, fun _ hb => hb⟩
  unfold meltP at h
  split at h
  · exact hsame h
  · simp only [RM.run] at h
    split at h
    · split at h
      · split at h
        · rename_i hl
          obtain ⟨fq', F', g1, g2, g3, g4⟩ := melt_float hS hrep hq hl
          exact ⟨_, fq', F', _, h, g1, g2, fun b hb => ⟨hq b (g4 b hb), fun _ => hb⟩, Md.le_noJ hl, g3⟩
        · exact hsame h
      · exact hsame h
    · exact hsame h

end
end Go.Trm
