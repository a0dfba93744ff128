import Derived.Calls
import Derived.Orders
import Derived.LoopN
import Derived.Scope
set_option linter.unusedVariables false
set_option linter.unusedSimpArgs false
namespace Go.Trm

/-! The shapes of data; their Lean types; who owns what. -/

inductive Ty where
  | int (k : IntKind)
  | bool
  | str
  | sl (e : TypeId) (t : Ty)
  | ptr (T : TypeId) (t : Ty)
  | unit
  | pair (a b : Ty)
  | arr (n : Nat) (t : Ty)

def Ty.I : Ty → Type
  | .int _ => Int
  | .bool => Bool
  | .str => List UInt8
  | .sl _ t => List t.I
  | .ptr _ t => Option t.I
  | .unit => Unit
  | .pair a b => a.I × b.I
  | .arr _ t => List t.I

def Ty.dflt : (t : Ty) → t.I
  | .int _ => (0 : Int)
  | .bool => false
  | .str => ([] : List UInt8)
  | .sl _ t => ([] : List t.I)
  | .ptr _ t => (none : Option t.I)
  | .unit => ()
  | .pair a b => (a.dflt, b.dflt)
  | .arr n t => List.replicate n t.dflt

def kEq : IntKind → IntKind → Bool
  | .i8, .i8 | .i16, .i16 | .i32, .i32 | .i64, .i64 | .u8, .u8 | .u16, .u16 | .u32, .u32 | .u64, .u64 => true
  | _, _ => false

def Ty.eqb : Ty → Ty → Bool
  | .int k, .int k' => kEq k k'
  | .bool, .bool | .str, .str | .unit, .unit => true
  | .sl e t, .sl e' t' => Nat.beq e e' && t.eqb t'
  | .ptr e t, .ptr e' t' => Nat.beq e e' && t.eqb t'
  | .pair a b, .pair a' b' => a.eqb a' && b.eqb b'
  | .arr n t, .arr n' t' => Nat.beq n n' && t.eqb t'
  | _, _ => false

theorem kEq_eq {k k' : IntKind} (h : kEq k k' = true) : k = k' := by cases k <;> cases k' <;> first | rfl | exact absurd h (by decide)

theorem Ty.eqb_eq : ∀ {t t' : Ty}, t.eqb t' = true → t = t' := by
  intro t
  induction t with
  | int k => intro t' h; cases t' <;> simp only [Ty.eqb, Bool.false_eq_true] at h; rw [kEq_eq h]
  | bool => intro t' h; cases t' <;> simp only [Ty.eqb, Bool.false_eq_true] at h; rfl
  | str => intro t' h; cases t' <;> simp only [Ty.eqb, Bool.false_eq_true] at h; rfl
  | unit => intro t' h; cases t' <;> simp only [Ty.eqb, Bool.false_eq_true] at h; rfl
  | sl e t ih => intro t' h; cases t' <;> simp only [Ty.eqb, Bool.false_eq_true, Bool.and_eq_true] at h; rw [Nat.eq_of_beq_eq_true h.1, ih h.2]
  | ptr e t ih => intro t' h; cases t' <;> simp only [Ty.eqb, Bool.false_eq_true, Bool.and_eq_true] at h; rw [Nat.eq_of_beq_eq_true h.1, ih h.2]
  | pair a b iha ihb => intro t' h; cases t' <;> simp only [Ty.eqb, Bool.false_eq_true, Bool.and_eq_true] at h; rw [iha h.1, ihb h.2]
  | arr n t ih => intro t' h; cases t' <;> simp only [Ty.eqb, Bool.false_eq_true, Bool.and_eq_true] at h; rw [Nat.eq_of_beq_eq_true h.1, ih h.2]

/-- data of a shape as data of another one, if they are the same -/
def castI (t t' : Ty) (x : t.I) : Option t'.I := if h : t.eqb t' = true then some (Ty.eqb_eq h ▸ x) else none

/-- no slice and no pointer inside -/
def Ty.flat : Ty → Bool
  | .int _ | .bool | .str | .unit => true
  | .sl _ _ | .ptr _ _ => false
  | .pair a b => a.flat && b.flat
  | .arr _ t => t.flat

inductive Md where
  | s            -- all of it stays for ever
  | j            -- moved away
  | o (m : Md)   -- its own block; what is in it
  | p (a b : Md)

def Md.isS : Md → Bool
  | .s => true
  | _ => false
def Md.isJ : Md → Bool
  | .j => true
  | _ => false
def Md.mkp : Md → Md → Md
  | .s, .s => .s
  | a, b => .p a b
def Md.fst : Md → Md
  | .p a _ => a
  | m => m
def Md.snd : Md → Md
  | .p _ b => b
  | m => m
def Md.el : Md → Md
  | .o m => m
  | m => m
def Md.eqb : Md → Md → Bool
  | .s, .s | .j, .j => true
  | .o a, .o b => a.eqb b
  | .p a b, .p c d => a.eqb c && b.eqb d
  | _, _ => false
/-- the mode of a zero value that may be added to -/
def Ty.own : Ty → Md
  | .sl _ _ => .o .s
  | .pair a b => .mkp a.own b.own
  | _ => .s

/-- what is its own of a zero value: om is the mode of a row's elements -/
def Ty.ownE (om : TypeId → Md) : Ty → Md
  | .sl e _ => .o (om e)
  | .pair a b => .mkp (a.ownE om) (b.ownE om)
  | _ => .s

inductive PE where
  | fld (i : Nat)
  | der
  | idx (i : Int)

/-- what is known of a slot -/
inductive SV where
  | v (t : Ty) (m : Md) (x : t.I)
  | al (r : Nat) (p : List PE)
  | lz (r : Nat) (p : List PE)
  | sub (r : Nat) (p : List PE) (lo hi : Int)
  | fn (f : FuncId) (fst caps : List (Nat × List PE))
  | bx (r : Nat) (p : List PE)
  | ifc (T : TypeId) (t : Ty) (x : t.I)
  | tup (l : List SV)
  | nil
  | un

abbrev St := Nat → SV

def St.put (st : St) (s : Nat) (v : SV) : St := fun i => match Nat.beq i s with | true => v | false => st i
def St.ofList : List (Nat × SV) → St
  | [] => fun _ => .un
  | (s, v) :: l => fun i => match Nat.beq i s with | true => v | false => St.ofList l i
def St.only (st : St) (l : List Nat) : St := St.ofList (l.map fun s => (s, st s))

def Ty.size : Ty → Nat
  | .unit => 0
  | .pair a b => a.size + b.size
  | .arr n t => n * t.size
  | _ => 1

/-! a place inside data -/

def getP : (t : Ty) → (m : Md) → t.I → List PE → Option ((u : Ty) × Md × u.I)
  | t, m, x, [] => some ⟨t, m, x⟩
  | .pair a _b, m, x, .fld 0 :: p => getP a m.fst x.1 p
  | .pair _a b, m, x, .fld (n + 1) :: p => getP b m.snd x.2 (.fld n :: p)
  | .ptr _ t, m, x, .der :: p => match (x : Option t.I) with
    | some c => getP t m.el c p
    | none => none
  | .sl _ t, m, x, .idx i :: p => getP t m.el (List.getD (x : List t.I) i.toNat t.dflt) p
  | .arr _ t, m, x, .idx i :: p => getP t m.el (List.getD (x : List t.I) i.toNat t.dflt) p
  | _, _, _, _ => none

def setP : (t : Ty) → (m : Md) → t.I → List PE → (u : Ty) → Md → u.I → Option (Md × t.I)
  | t, _, _, [], u, mu, y => match castI u t y with
    | some y => some (mu, y)
    | none => none
  | .pair a _b, m, x, .fld 0 :: p, u, mu, y => match setP a m.fst x.1 p u mu y with
    | some (m', x') => some (.mkp m' m.snd, (x', x.2))
    | none => none
  | .pair _a b, m, x, .fld (n + 1) :: p, u, mu, y => match setP b m.snd x.2 (.fld n :: p) u mu y with
    | some (m', x') => some (.mkp m.fst m', (x.1, x'))
    | none => none
  | .ptr _ t, .o m, x, .der :: p, u, mu, y => match (x : Option t.I) with
    | some c => match setP t m c p u mu y with
      | some (m', c') => some (.o m', some c')
      | none => none
    | none => none
  | .sl _ t, .o m, x, .idx i :: p, u, mu, y => match setP t m (List.getD (x : List t.I) i.toNat t.dflt) p u mu y with
    | some (m', c') => match m'.eqb m with
      | true => some (.o m, List.set (x : List t.I) i.toNat c')
      | false => none
    | none => none
  | .arr _ t, m, x, .idx i :: p, u, mu, y => match m.isJ, setP t m.el (List.getD (x : List t.I) i.toNat t.dflt) p u mu y with
    | false, some (m', c') => match m'.eqb m.el with
      | true => some (m, List.set (x : List t.I) i.toNat c')
      | false => none
    | _, _ => none
  | _, _, _, _, _, _, _ => none

def PE.like : PE → PE → Bool
  | .fld i, .fld j => Nat.beq i j
  | .der, .der | .idx _, .idx _ => true
  | _, _ => false
def pre : List PE → List PE → Bool
  | [], _ => true
  | .fld i :: p, .fld j :: q => cond (Nat.beq i j) (pre p q) true
  | .der :: p, .der :: q => pre p q
  | .idx _ :: p, .idx _ :: q => pre p q
  | _, _ => false
/-- a place in a variable itself -/
def flds : List PE → Bool
  | [] => true
  | .fld _ :: p => flds p
  | _ => false
/-- a pointer's place begins with a block -/
def rootB : Ty → List PE → Bool
  | .ptr _ _, .der :: _ => true
  | .sl _ _, .idx _ :: _ => true
  | _, _ => false
def shal : List PE → Bool
  | .der :: p => flds p
  | _ => false
/-- slots that are none of the program's: from here on -/
def gh0 : Nat := 1000000

/-- a pointer that stays as it is if something is put at the place p -/
def stays (p q : List PE) : Bool := !p.isEmpty && (pre q p || shal q)

/-- something is put at a place -/
def St.kill (st : St) (r : Nat) (p : List PE) : St := fun i => match st i with
  | .al r' q => cond (Nat.beq r r' && !(stays p q)) .un (.al r' q)
  | .lz r' q => cond (Nat.beq r r' && !(q.isEmpty && !p.isEmpty)) .un (.lz r' q)
  | .sub r' q lo hi => cond (Nat.beq r r') .un (.sub r' q lo hi)
  | .fn f fst caps => cond ((fst ++ caps).any fun c => Nat.beq r c.1 && !(stays p c.2)) .un (.fn f fst caps)
  | v => v

/-! what an operation asks of the slots, and does to them -/

open Classical in
/-- one of two, if they are the same -/
noncomputable def both {R : Type} (x y : Option R) : Option R := if x = y then x else none
theorem both_some {R : Type} {x y : Option R} {r : R} (h : both x y = some r) : x = some r ∧ y = some r := by
  unfold both at h
  split at h
  · rename_i he; exact ⟨h, he ▸ h⟩
  · cases h
theorem both_self {R : Type} (x : Option R) : both x x = x := by unfold both; rw [if_pos rfl]

/-- what a panic bears -/
structure PanV where
  T : TypeId
  t : Ty
  x : t.I

inductive RM (α : Type) : Type 1 where
  | ret (a : α)
  | get (s : Nat) (k : SV → RM α)
  | put (s : Nat) (v : SV) (k : RM α)
  | kill (r : Nat) (p : List PE) (k : RM α)
  | chk (b : Bool) (k : RM α)
  | ite (b : Bool) (x y : RM α)
  | call {D E : Type} (f : {R : Type} → (D → Option R) → (E → Option R) → Option R) (k : D → RM α) (kp : E → RM α)
  | inl (f : FuncId) (d : Option Nat) (xs : List SV) (k : SV → RM α)
  | pan (p : PanV)
  | any (x y : RM α)
  | fail

/-! 'none', from far above: what it stands in is unfolded ahead of the plain texts -/
def dn0 {R : Type} : Option R := none
def dn1 {R : Type} : Option R := dn0
def dn2 {R : Type} : Option R := dn1
def dn3 {R : Type} : Option R := dn2
def dn4 {R : Type} : Option R := dn3
def dn5 {R : Type} : Option R := dn4
def dn6 {R : Type} : Option R := dn5
def dn7 {R : Type} : Option R := dn6
def dn8 {R : Type} : Option R := dn7
def dn9 {R : Type} : Option R := dn8
def dn10 {R : Type} : Option R := dn9
def dn11 {R : Type} : Option R := dn10
def dn12 {R : Type} : Option R := dn11
def dn13 {R : Type} : Option R := dn12
def dn14 {R : Type} : Option R := dn13
def dn15 {R : Type} : Option R := dn14
def dn16 {R : Type} : Option R := dn15
def dn17 {R : Type} : Option R := dn16
def dn18 {R : Type} : Option R := dn17
def dn19 {R : Type} : Option R := dn18
def dn20 {R : Type} : Option R := dn19
def dn21 {R : Type} : Option R := dn20
def dn22 {R : Type} : Option R := dn21
def dn23 {R : Type} : Option R := dn22
def dn24 {R : Type} : Option R := dn23
def dn25 {R : Type} : Option R := dn24
def dn26 {R : Type} : Option R := dn25
def dn27 {R : Type} : Option R := dn26
def dn28 {R : Type} : Option R := dn27
def dn29 {R : Type} : Option R := dn28
def dn30 {R : Type} : Option R := dn29
def dn31 {R : Type} : Option R := dn30
def dn32 {R : Type} : Option R := dn31
def dn33 {R : Type} : Option R := dn32
def dn34 {R : Type} : Option R := dn33
def dn35 {R : Type} : Option R := dn34
def dn36 {R : Type} : Option R := dn35
def dn37 {R : Type} : Option R := dn36
def dn38 {R : Type} : Option R := dn37
def dn39 {R : Type} : Option R := dn38
def dn40 {R : Type} : Option R := dn39
def dn41 {R : Type} : Option R := dn40
def dn42 {R : Type} : Option R := dn41
def dn43 {R : Type} : Option R := dn42
def dn44 {R : Type} : Option R := dn43
def dn45 {R : Type} : Option R := dn44
def dn46 {R : Type} : Option R := dn45
def dn47 {R : Type} : Option R := dn46
def dn48 {R : Type} : Option R := dn47
def dn49 {R : Type} : Option R := dn48
def dn50 {R : Type} : Option R := dn49
def dn51 {R : Type} : Option R := dn50
def dn52 {R : Type} : Option R := dn51
def dn53 {R : Type} : Option R := dn52
def dn54 {R : Type} : Option R := dn53
def dn55 {R : Type} : Option R := dn54
def dn56 {R : Type} : Option R := dn55
def dn57 {R : Type} : Option R := dn56
def dn58 {R : Type} : Option R := dn57
def dn59 {R : Type} : Option R := dn58
def dn60 {R : Type} : Option R := dn59
def dn61 {R : Type} : Option R := dn60
def dn62 {R : Type} : Option R := dn61
def dn63 {R : Type} : Option R := dn62
def dn64 {R : Type} : Option R := dn63
def dn65 {R : Type} : Option R := dn64
def dn66 {R : Type} : Option R := dn65
def dn67 {R : Type} : Option R := dn66
def dn68 {R : Type} : Option R := dn67
def dn69 {R : Type} : Option R := dn68
def dn70 {R : Type} : Option R := dn69
def dn71 {R : Type} : Option R := dn70
def dn72 {R : Type} : Option R := dn71
def dn73 {R : Type} : Option R := dn72
def dn74 {R : Type} : Option R := dn73
def dn75 {R : Type} : Option R := dn74
def dn76 {R : Type} : Option R := dn75
def dn77 {R : Type} : Option R := dn76
def dn78 {R : Type} : Option R := dn77
def dn79 {R : Type} : Option R := dn78
def dn80 {R : Type} : Option R := dn79
def dn81 {R : Type} : Option R := dn80
def dn82 {R : Type} : Option R := dn81
def dn83 {R : Type} : Option R := dn82
def dn84 {R : Type} : Option R := dn83
def dn85 {R : Type} : Option R := dn84
def dn86 {R : Type} : Option R := dn85
def dn87 {R : Type} : Option R := dn86
def dn88 {R : Type} : Option R := dn87
def dn89 {R : Type} : Option R := dn88
def dn90 {R : Type} : Option R := dn89
def dn91 {R : Type} : Option R := dn90
def dn92 {R : Type} : Option R := dn91
def dn93 {R : Type} : Option R := dn92
def dn94 {R : Type} : Option R := dn93
def dn95 {R : Type} : Option R := dn94
def dn96 {R : Type} : Option R := dn95
def dn97 {R : Type} : Option R := dn96
def dn98 {R : Type} : Option R := dn97
def dn99 {R : Type} : Option R := dn98
def dn100 {R : Type} : Option R := dn99
def dn101 {R : Type} : Option R := dn100
def dn102 {R : Type} : Option R := dn101
def dn103 {R : Type} : Option R := dn102
def dn104 {R : Type} : Option R := dn103
def dn105 {R : Type} : Option R := dn104
def dn106 {R : Type} : Option R := dn105
def dn107 {R : Type} : Option R := dn106
def dn108 {R : Type} : Option R := dn107
def dn109 {R : Type} : Option R := dn108
def dn110 {R : Type} : Option R := dn109
def dn111 {R : Type} : Option R := dn110
def dn112 {R : Type} : Option R := dn111
def dn113 {R : Type} : Option R := dn112
def dn114 {R : Type} : Option R := dn113
def dn115 {R : Type} : Option R := dn114
def dn116 {R : Type} : Option R := dn115
def dn117 {R : Type} : Option R := dn116
def dn118 {R : Type} : Option R := dn117
def dn119 {R : Type} : Option R := dn118
def dn120 {R : Type} : Option R := dn119
def dn121 {R : Type} : Option R := dn120
def dn122 {R : Type} : Option R := dn121
def dn123 {R : Type} : Option R := dn122
def dn124 {R : Type} : Option R := dn123
def dn125 {R : Type} : Option R := dn124
def dn126 {R : Type} : Option R := dn125
def dn127 {R : Type} : Option R := dn126
def dn128 {R : Type} : Option R := dn127
def dn129 {R : Type} : Option R := dn128
def dn130 {R : Type} : Option R := dn129
def dn131 {R : Type} : Option R := dn130
def dn132 {R : Type} : Option R := dn131
def dn133 {R : Type} : Option R := dn132
def dn134 {R : Type} : Option R := dn133
def dn135 {R : Type} : Option R := dn134
def dn136 {R : Type} : Option R := dn135
def dn137 {R : Type} : Option R := dn136
def dn138 {R : Type} : Option R := dn137
def dn139 {R : Type} : Option R := dn138
def dn140 {R : Type} : Option R := dn139
def dn141 {R : Type} : Option R := dn140
def dn142 {R : Type} : Option R := dn141
def dn143 {R : Type} : Option R := dn142
def dn144 {R : Type} : Option R := dn143
def dn145 {R : Type} : Option R := dn144
def dn146 {R : Type} : Option R := dn145
def dn147 {R : Type} : Option R := dn146
def dn148 {R : Type} : Option R := dn147
def dn149 {R : Type} : Option R := dn148
def dn150 {R : Type} : Option R := dn149
def dn151 {R : Type} : Option R := dn150
def dn152 {R : Type} : Option R := dn151
def dn153 {R : Type} : Option R := dn152
def dn154 {R : Type} : Option R := dn153
def dn155 {R : Type} : Option R := dn154
def dn156 {R : Type} : Option R := dn155
def dn157 {R : Type} : Option R := dn156
def dn158 {R : Type} : Option R := dn157
def dn159 {R : Type} : Option R := dn158
def dn160 {R : Type} : Option R := dn159
def dn161 {R : Type} : Option R := dn160
def dn162 {R : Type} : Option R := dn161
def dn163 {R : Type} : Option R := dn162
def dn164 {R : Type} : Option R := dn163
def dn165 {R : Type} : Option R := dn164
def dn166 {R : Type} : Option R := dn165
def dn167 {R : Type} : Option R := dn166
def dn168 {R : Type} : Option R := dn167
def dn169 {R : Type} : Option R := dn168
def dn170 {R : Type} : Option R := dn169
def dn171 {R : Type} : Option R := dn170
def dn172 {R : Type} : Option R := dn171
def dn173 {R : Type} : Option R := dn172
def dn174 {R : Type} : Option R := dn173
def dn175 {R : Type} : Option R := dn174
def dn176 {R : Type} : Option R := dn175
def dn177 {R : Type} : Option R := dn176
def dn178 {R : Type} : Option R := dn177
def dn179 {R : Type} : Option R := dn178
def dn180 {R : Type} : Option R := dn179
def dn181 {R : Type} : Option R := dn180
def dn182 {R : Type} : Option R := dn181
def dn183 {R : Type} : Option R := dn182
def dn184 {R : Type} : Option R := dn183
def dn185 {R : Type} : Option R := dn184
def dn186 {R : Type} : Option R := dn185
def dn187 {R : Type} : Option R := dn186
def dn188 {R : Type} : Option R := dn187
def dn189 {R : Type} : Option R := dn188
def dn190 {R : Type} : Option R := dn189
def dn191 {R : Type} : Option R := dn190
def dn192 {R : Type} : Option R := dn191
def dn193 {R : Type} : Option R := dn192
def dn194 {R : Type} : Option R := dn193
def dn195 {R : Type} : Option R := dn194
def dn196 {R : Type} : Option R := dn195
def dn197 {R : Type} : Option R := dn196
def dn198 {R : Type} : Option R := dn197
def dn199 {R : Type} : Option R := dn198
def dn200 {R : Type} : Option R := dn199
theorem dn_eq {R : Type} : (dn200 : Option R) = none := rfl
attribute [simp] dn_eq

/-- what comes behind a panic; calls that are looked into -/
structure Cx (R : Type) where
  kp : PanV → St → Option R
  inl : FuncId → Option Nat → St → List SV → (SV → St → Option R) → Option R

noncomputable def RM.run {α R : Type} (C : Cx R) : RM α → St → (α → St → Option R) → Option R
  | .ret a, st, K => K a st
  | .get s k, st, K => (k (st s)).run C st K
  | .put s v k, st, K => k.run C (st.put s v) K
  | .kill r p k, st, K => k.run C (st.kill r p) K
  | .chk b k, st, K => cond b (k.run C st K) none
  | .ite b x y, st, K => cond b (x.run C st K) (y.run C st K)
  | .call f k kp, st, K => f (fun x => (k x).run C st K) (fun y => (kp y).run C st K)
  | .inl f d xs k, st, K => C.inl f d st xs fun v st => (k v).run C st K
  | .pan p, st, _ => C.kp p st
  | .any x y, st, K => both (x.run C st K) (y.run C st K)
  | .fail, _, _ => dn200

/-! calls: what is known of a function -/

inductive PK where
  | val (t : Ty) (m : Md)
  | ref (t : Ty) (m m' : Md)
  | fn (f : FuncId)
def PK.D : PK → Type
  | .val t _ => t.I
  | .ref t _ _ => t.I
  | .fn _ => Unit
def DI : List PK → Type
  | [] => Unit
  | k :: ks => k.D × DI ks
def DR : List (Ty × Md) → Type
  | [] => Unit
  | k :: ks => k.1.I × DR ks
def DB : List PK → Type
  | [] => Unit
  | .ref t _ _ :: ks => t.I × DB ks
  | .val _ _ :: ks => DB ks
  | .fn _ :: ks => DB ks

def PI : Option (TypeId × Ty) → Type
  | none => Empty
  | some q => q.2.I
def PI.pan : (o : Option (TypeId × Ty)) → PI o → PanV
  | none, y => nomatch y
  | some q, y => ⟨q.1, q.2, y⟩

structure CSpec where
  ins : List PK
  outs : List (Ty × Md)
  pan : Option (TypeId × Ty) := none
  fn : {R : Type} → DI ins → (DR outs → DB ins → Option R) → (PI pan → DB ins → Option R) → Option R

/-- no slice or pointer inside that is not its own -/
def clsd : Ty → Md → Bool
  | .int _, _ | .bool, _ | .str, _ | .unit, _ => true
  | .sl _ t, .o m => clsd t m
  | .ptr _ t, .o m => clsd t m
  | .pair a b, m => clsd a m.fst && clsd b m.snd
  | .arr _ t, m => clsd t m.el
  | _, _ => false

def CSpec.clsd (c : CSpec) : Bool := c.outs.all (fun k => Trm.clsd k.1 k.2) && c.ins.all (fun
  | .ref t _ m' => Trm.clsd t m'
  | _ => true)

/-- the shapes of the program's types; what is known of its functions; how many slots there are -/
structure Env where
  ty : TypeId → Option Ty
  gam : FuncId → List FuncId → Option CSpec
  n : Nat
  fz : Nat → Bool := fun _ => false
  lv : Nat → Option (List Nat) := fun _ => none
  b : Nat := 0
  fs : Nat → Bool := fun _ => false
  sb : Nat → Bool := fun _ => false
  al : List Nat := []
  il : FuncId → Bool := fun _ => false
  js : Nat → Bool := fun _ => false
  df : Bool := false
  rs : List Nat := []
  eq : TypeId → Bool := fun _ => false
  om : TypeId → Md := fun _ => .s

/-- at a region only some slots count any more -/
def St.at (st : St) : Option (List Nat) → St
  | some l => st.only l
  | none => st

def Env.is (env : Env) (T : TypeId) (t : Ty) : Bool := match env.ty T with
  | some t' => t'.eqb t
  | none => false

end Go.Trm
