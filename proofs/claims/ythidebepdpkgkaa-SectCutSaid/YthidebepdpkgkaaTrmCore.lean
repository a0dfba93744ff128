import Derived.Calls
import Derived.Orders
import Derived.LoopN
import Derived.Scope
set_option linter.unusedVariables false
set_option linter.unusedSimpArgs false
namespace Go.Trm

/-! The shapes of data; their Lean types; who owns what. -/

inductive Ty where
  | int (k : IntKind)
  | bool
  | str
  | sl (e : TypeId) (t : Ty)
  | ptr (T : TypeId) (t : Ty)
  | unit
  | pair (a b : Ty)
  | arr (n : Nat) (t : Ty)

def Ty.I : Ty → Type
  | .int _ => Int
  | .bool => Bool
  | .str => List UInt8
  | .sl _ t => List t.I
  | .ptr _ t => Option t.I
  | .unit => Unit
  | .pair a b => a.I × b.I
  | .arr _ t => List t.I

def Ty.dflt : (t : Ty) → t.I
  | .int _ => (0 : Int)
  | .bool => false
  | .str => ([] : List UInt8)
  | .sl _ t => ([] : List t.I)
  | .ptr _ t => (none : Option t.I)
  | .unit => ()
  | .pair a b => (a.dflt, b.dflt)
  | .arr n t => List.replicate n t.dflt

def kEq : IntKind → IntKind → Bool
  | .i8, .i8 | .i16, .i16 | .i32, .i32 | .i64, .i64 | .u8, .u8 | .u16, .u16 | .u32, .u32 | .u64, .u64 => true
  | _, _ => false

def Ty.eqb : Ty → Ty → Bool
  | .int k, .int k' => kEq k k'
  | .bool, .bool | .str, .str | .unit, .unit => true
  | .sl e t, .sl e' t' => Nat.beq e e' && t.eqb t'
  | .ptr e t, .ptr e' t' => Nat.beq e e' && t.eqb t'
  | .pair a b, .pair a' b' => a.eqb a' && b.eqb b'
  | .arr n t, .arr n' t' => Nat.beq n n' && t.eqb t'
  | _, _ => false

theorem kEq_eq {k k' : IntKind} (h : kEq k k' = true) : k = k' := by cases k <;> cases k' <;> first | rfl | exact absurd h (by decide)

theorem Ty.eqb_eq : ∀ {t t' : Ty}, t.eqb t' = true → t = t' := by
  intro t
  induction t with
  | int k => intro t' h; cases t' <;> simp only [Ty.eqb, Bool.false_eq_true] at h; rw [kEq_eq h]
  | bool => intro t' h; cases t' <;> simp only [Ty.eqb, Bool.false_eq_true] at h; rfl
  | str => intro t' h; cases t' <;> simp only [Ty.eqb, Bool.false_eq_true] at h; rfl
  | unit => intro t' h; cases t' <;> simp only [Ty.eqb, Bool.false_eq_true] at h; rfl
  | sl e t ih => intro t' h; cases t' <;> simp only [Ty.eqb, Bool.false_eq_true, Bool.and_eq_true] at h; rw [Nat.eq_of_beq_eq_true h.1, ih h.2]
  | ptr e t ih => intro t' h; cases t' <;> simp only [Ty.eqb, Bool.false_eq_true, Bool.and_eq_true] at h; rw [Nat.eq_of_beq_eq_true h.1, ih h.2]
  | pair a b iha ihb => intro t' h; cases t' <;> simp only [Ty.eqb, Bool.false_eq_true, Bool.and_eq_true] at h; rw [iha h.1, ihb h.2]
  | arr n t ih => intro t' h; cases t' <;> simp only [Ty.eqb, Bool.false_eq_true, Bool.and_eq_true] at h; rw [Nat.eq_of_beq_eq_true h.1, ih h.2]

/-- data of a shape as data of another one, if they are the same -/
def castI (t t' : Ty) (x : t.I) : Option t'.I := if h : t.eqb t' = true then some (Ty.eqb_eq h ▸ x) else none

/-- no slice and no pointer inside -/
def Ty.flat : Ty → Bool
  | .int _ | .bool | .str | .unit => true
  | .sl _ _ | .ptr _ _ => false
  | .pair a b => a.flat && b.flat
  | .arr _ t => t.flat

inductive Md where
  | s            -- all of it stays for ever
  | j            -- moved away
  | o (m : Md)   -- its own block; what is in it
  | p (a b : Md)

def Md.isS : Md → Bool
  | .s => true
  | _ => false
def Md.isJ : Md → Bool
  | .j => true
  | _ => false
def Md.mkp : Md → Md → Md
  | .s, .s => .s
  | a, b => .p a b
def Md.fst : Md → Md
  | .p a _ => a
  | m => m
def Md.snd : Md → Md
  | .p _ b => b
  | m => m
def Md.el : Md → Md
  | .o m => m
  | m => m
def Md.eqb : Md → Md → Bool
  | .s, .s | .j, .j => true
  | .o a, .o b => a.eqb b
  | .p a b, .p c d => a.eqb c && b.eqb d
  | _, _ => false
/-- the mode of a zero value that may be added to -/
def Ty.own : Ty → Md
  | .sl _ _ => .o .s
  | .pair a b => .mkp a.own b.own
  | _ => .s

inductive PE where
  | fld (i : Nat)
  | der
  | idx (i : Int)

/-- what is known of a slot -/
inductive SV where
  | v (t : Ty) (m : Md) (x : t.I)
  | al (r : Nat) (p : List PE)
  | lz (r : Nat) (p : List PE)
  | fn (f : FuncId) (caps : List (Nat × List PE))
  | tup (l : List SV)
  | nil
  | un

abbrev St := Nat → SV

def St.put (st : St) (s : Nat) (v : SV) : St := fun i => match Nat.beq i s with | true => v | false => st i
def St.ofList : List (Nat × SV) → St
  | [] => fun _ => .un
  | (s, v) :: l => fun i => match Nat.beq i s with | true => v | false => St.ofList l i
def St.only (st : St) (l : List Nat) : St := St.ofList (l.map fun s => (s, st s))

def Ty.size : Ty → Nat
  | .unit => 0
  | .pair a b => a.size + b.size
  | .arr n t => n * t.size
  | _ => 1

/-! a place inside data -/

def getP : (t : Ty) → (m : Md) → t.I → List PE → Option ((u : Ty) × Md × u.I)
  | t, m, x, [] => some ⟨t, m, x⟩
  | .pair a _b, m, x, .fld 0 :: p => getP a m.fst x.1 p
  | .pair _a b, m, x, .fld (n + 1) :: p => getP b m.snd x.2 (.fld n :: p)
  | .ptr _ t, m, x, .der :: p => match (x : Option t.I) with
    | some c => getP t m.el c p
    | none => none
  | .sl _ t, m, x, .idx i :: p => getP t m.el (List.getD (x : List t.I) i.toNat t.dflt) p
  | .arr _ t, m, x, .idx i :: p => getP t m.el (List.getD (x : List t.I) i.toNat t.dflt) p
  | _, _, _, _ => none

def setP : (t : Ty) → (m : Md) → t.I → List PE → (u : Ty) → Md → u.I → Option (Md × t.I)
  | t, _, _, [], u, mu, y => match castI u t y with
    | some y => some (mu, y)
    | none => none
  | .pair a _b, m, x, .fld 0 :: p, u, mu, y => match setP a m.fst x.1 p u mu y with
    | some (m', x') => some (.mkp m' m.snd, (x', x.2))
    | none => none
  | .pair _a b, m, x, .fld (n + 1) :: p, u, mu, y => match setP b m.snd x.2 (.fld n :: p) u mu y with
    | some (m', x') => some (.mkp m.fst m', (x.1, x'))
    | none => none
  | .ptr _ t, .o m, x, .der :: p, u, mu, y => match (x : Option t.I) with
    | some c => match setP t m c p u mu y with
      | some (m', c') => some (.o m', some c')
      | none => none
    | none => none
  | .sl _ t, .o m, x, .idx i :: p, u, mu, y => match setP t m (List.getD (x : List t.I) i.toNat t.dflt) p u mu y with
    | some (m', c') => match m'.eqb m with
      | true => some (.o m, List.set (x : List t.I) i.toNat c')
      | false => none
    | none => none
  | .arr _ t, m, x, .idx i :: p, u, mu, y => match m.isJ, setP t m.el (List.getD (x : List t.I) i.toNat t.dflt) p u mu y with
    | false, some (m', c') => match m'.eqb m.el with
      | true => some (m, List.set (x : List t.I) i.toNat c')
      | false => none
    | _, _ => none
  | _, _, _, _, _, _, _ => none

def PE.like : PE → PE → Bool
  | .fld i, .fld j => Nat.beq i j
  | .der, .der | .idx _, .idx _ => true
  | _, _ => false
def pre : List PE → List PE → Bool
  | [], _ => true
  | a :: p, b :: q => a.like b && pre p q
  | _, _ => false
/-- a place in a variable itself -/
def flds : List PE → Bool
  | [] => true
  | .fld _ :: p => flds p
  | _ => false
/-- a pointer's place begins with a block -/
def rootB : Ty → List PE → Bool
  | .ptr _ _, .der :: _ => true
  | .sl _ _, .idx _ :: _ => true
  | _, _ => false
def shal : List PE → Bool
  | .der :: p => flds p
  | _ => false
/-- a pointer that stays as it is if something is put at the place p -/
def stays (p q : List PE) : Bool := !p.isEmpty && (pre q p || shal q)

/-- something is put at a place -/
def St.kill (st : St) (r : Nat) (p : List PE) : St := fun i => match st i with
  | .al r' q => cond (Nat.beq r r' && !(stays p q)) .un (.al r' q)
  | .lz r' q => cond (Nat.beq r r' && !(q.isEmpty && !p.isEmpty)) .un (.lz r' q)
  | .fn f caps => cond (caps.any fun c => Nat.beq r c.1 && !(stays p c.2)) .un (.fn f caps)
  | v => v

/-! what an operation asks of the slots, and does to them -/

open Classical in
/-- one of two, if they are the same -/
noncomputable def both {R : Type} (x y : Option R) : Option R := if x = y then x else none
theorem both_some {R : Type} {x y : Option R} {r : R} (h : both x y = some r) : x = some r ∧ y = some r := by
  unfold both at h
  split at h
  · rename_i he; exact ⟨h, he ▸ h⟩
  · cases h
theorem both_self {R : Type} (x : Option R) : both x x = x := by unfold both; rw [if_pos rfl]

inductive RM (α : Type) : Type 1 where
  | ret (a : α)
  | get (s : Nat) (k : SV → RM α)
  | put (s : Nat) (v : SV) (k : RM α)
  | kill (r : Nat) (p : List PE) (k : RM α)
  | chk (b : Bool) (k : RM α)
  | ite (b : Bool) (x y : RM α)
  | call {D : Type} (f : {R : Type} → (D → Option R) → Option R) (k : D → RM α)
  | any (x y : RM α)
  | fail

noncomputable def RM.run {α R : Type} : RM α → St → (α → St → Option R) → Option R
  | .ret a, st, K => K a st
  | .get s k, st, K => (k (st s)).run st K
  | .put s v k, st, K => k.run (st.put s v) K
  | .kill r p k, st, K => k.run (st.kill r p) K
  | .chk b k, st, K => cond b (k.run st K) none
  | .ite b x y, st, K => cond b (x.run st K) (y.run st K)
  | .call f k, st, K => f fun x => (k x).run st K
  | .any x y, st, K => both (x.run st K) (y.run st K)
  | .fail, _, _ => none

/-! calls: what is known of a function -/

inductive PK where
  | val (t : Ty) (m : Md)
  | ref (t : Ty) (m m' : Md)
  | fn (f : FuncId)
def PK.D : PK → Type
  | .val t _ => t.I
  | .ref t _ _ => t.I
  | .fn _ => Unit
def DI : List PK → Type
  | [] => Unit
  | k :: ks => k.D × DI ks
def DR : List (Ty × Md) → Type
  | [] => Unit
  | k :: ks => k.1.I × DR ks
def DB : List PK → Type
  | [] => Unit
  | .ref t _ _ :: ks => t.I × DB ks
  | .val _ _ :: ks => DB ks
  | .fn _ :: ks => DB ks

structure CSpec where
  ins : List PK
  outs : List (Ty × Md)
  fn : {R : Type} → DI ins → (DR outs → DB ins → Option R) → Option R

/-- no slice or pointer inside that is not its own -/
def clsd : Ty → Md → Bool
  | .int _, _ | .bool, _ | .str, _ | .unit, _ => true
  | .sl _ t, .o m => clsd t m
  | .ptr _ t, .o m => clsd t m
  | .pair a b, m => clsd a m.fst && clsd b m.snd
  | .arr _ t, m => clsd t m.el
  | _, _ => false

def CSpec.clsd (c : CSpec) : Bool := c.outs.all (fun k => Trm.clsd k.1 k.2) && c.ins.all (fun
  | .ref t _ m' => Trm.clsd t m'
  | _ => true)

/-- the shapes of the program's types; what is known of its functions; how many slots there are -/
structure Env where
  ty : TypeId → Option Ty
  gam : FuncId → Option CSpec
  n : Nat
  fz : Nat → Bool := fun _ => false

def Env.is (env : Env) (T : TypeId) (t : Ty) : Bool := match env.ty T with
  | some t' => t'.eqb t
  | none => false

end Go.Trm
