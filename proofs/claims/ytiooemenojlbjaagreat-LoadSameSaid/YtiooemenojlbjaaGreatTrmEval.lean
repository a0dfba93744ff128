import Derived.Test.YtiooemenojlbjaaGreatTrmCore
import Derived.Orders
set_option linter.unusedVariables false
set_option linter.unusedSimpArgs false
namespace Go.Trm

section
variable {α : Type}

def inK (k : IntKind) (n : Int) : Bool := decide (k.min ≤ n) && decide (n ≤ k.max)

def most : Nat := 4294967296

def cst (env : Env) (T : TypeId) : Value → SV
  | .int k n => match inK k n with
    | true => .v (.int k) .s n
    | false => .un
  | .bool b => .v .bool .s b
  | .string s => match Nat.ble s.data.toList.length most with
    | true => .v .str .s s.data.toList
    | false => .un
  | .slice none 0 0 => match env.ty T with
    | some (.sl e t) => .v (.sl e t) (.o (env.om e)) []
    | _ => .nil
  | .pointer none => match env.ty T with
    | some (.ptr T t) => .v (.ptr T t) .s none
    | _ => .un
  | _ => .un

def rdO (env : Env) (T : TypeId) (x : Operand) (k : SV → RM α) : RM α :=
  match x with
  | .tmp t => match Nat.blt t env.n with
    | true => .get (env.b + t) k
    | false => .fail
  | .const c => k (cst env T c)
  | .func f => k (.fn f [] [])
  | .global _ => .fail

def self (env : Env) : Operand → Option Nat
  | .tmp t => some (env.b + t)
  | _ => none

abbrev Src := Option (Nat × List PE)

/-- the data of a value, and where its own blocks come from -/
def derefX (v : SV) (me : Option Nat) (k : (t : Ty) → Md → t.I → Src → RM α) : RM α :=
  match v with
  | .v t .s x => k t .s x none
  | .v _ .j _ => .fail
  | .v t m x => k t m x (match me with | some s => some (s, []) | none => none)
  | .lz r p => .get r fun w => match w with
    | .v t m x => match getP t m x p with
      | some ⟨u, .s, y⟩ => k u .s y none
      | some ⟨_, .j, _⟩ => .fail
      | some ⟨u, mu, y⟩ => k u mu y (some (r, p))
      | none => .fail
    | _ => .fail
  | _ => .fail

/-- a character's bytes -/
def runeB (n : Int) : List UInt8 := (Utf8.encode n).data.toList

/-- a range of data -/
def rng {β : Type} (l : List β) (lo hi : Int) : List β := (l.take hi.toNat).drop lo.toNat

def deref (v : SV) (me : Option Nat) (k : (t : Ty) → Md → t.I → Src → RM α) : RM α :=
  match v with
  | .sub r p lo hi => .get r fun w => match w with
    | .v t m x => match getP t m x p with
      | some ⟨.sl e u, mu, y⟩ => match mu with
        | .s => k (.sl e u) .s (rng (y : List u.I) lo hi) none
        | .j => .fail
        | mu => k (.sl e u) mu (rng (y : List u.I) lo hi) (some (r, p))
      | _ => .fail
    | _ => .fail
  | v => derefX v me k

/-- the data of an operand -/
def rdV (env : Env) (T : TypeId) (x : Operand) (k : (t : Ty) → Md → t.I → Src → RM α) : RM α :=
  rdO env T x fun v => deref v (self env x) k
def rdX (env : Env) (T : TypeId) (x : Operand) (k : (t : Ty) → Md → t.I → Src → RM α) : RM α :=
  rdO env T x fun v => derefX v (self env x) k

/-- nothing inside has been moved away -/
def Md.noJ : Md → Bool
  | .s => true
  | .j => false
  | .o m => m.noJ
  | .p a b => a.noJ && b.noJ

/-- m' is m, or more of it stays for ever -/
def Md.le : Md → Md → Bool
  | .s, m => m.noJ
  | .o a, .o b => a.le b
  | .p a b, .p c d => a.le c && b.le d
  | _, _ => false

/-- what stands at a place is moved away -/
def take (src : Src) (k : RM α) : RM α :=
  match src with
  | none => k
  | some (r, p) => .get r fun w => match w with
    | .v t m x => match getP t m x p with
      | some ⟨u, _, y⟩ => match setP t m x p u .j y with
        | some (m', x') => .kill r p (.put r (.v t m' x') k)
        | none => .fail
      | none => .fail
    | _ => .fail

/-- what stands at a place stays there for ever -/
def freeze (src : Src) (k : RM α) : RM α :=
  match src with
  | none => k
  | some (r, p) => .get r fun w => match w with
    | .v t m x => match getP t m x p with
      | some ⟨u, mo, y⟩ => match mo.noJ, setP t m x p u .s y with
        | true, some (m', x') => .kill r p (.put r (.v t m' x') k)
        | _, _ => .fail
      | none => .fail
    | _ => .fail

/-- a slot is filled anew -/
def setS (d : Nat) (v : SV) (k : RM α) : RM α :=
  match v with
  | .v _ _ _ => .kill d [] (.put d v k)
  | v => .put d v k

/-- slots whose data stays as soon as it is there -/
def frz (env : Env) (d : Nat) (v : SV) : SV :=
  match v with
  | .v t m x => match env.fz d && m.noJ with
    | true => .v t .s x
    | false => .v t m x
  | v => v

/-- is what is filled frozen? -/
def fzd (env : Env) (o : Oper) : Bool := match o.dst with
  | some d => env.fz d
  | none => false

def fin (env : Env) (o : Oper) (v : SV) : RM Unit :=
  match o.dst with
  | some d => match Nat.blt d env.n with
    | true => setS (env.b + d) (frz env d v) (.ret ())
    | false => .fail
  | none => .ret ()

/-- a number -/
def rdInt (env : Env) (T : TypeId) (x : Operand) (k : IntKind → Int → RM α) : RM α :=
  rdV env T x fun t _ y _ => match t, y with
    | .int kd, y => k kd y
    | _, _ => .fail

/-- data that is taken over: with its own blocks -/
def rdT (env : Env) (T : TypeId) (x : Operand) (k : (t : Ty) → Md → t.I → RM α) : RM α :=
  rdV env T x fun t m y src => take src (k t m y)

/-- is a place one of memory? -/
def memP (r : Nat) (p : List PE) (k : RM α) : RM α :=
  .get r fun w => match w with
    | .v t _ _ => match rootB t p with
      | true => k
      | false => .fail
    | _ => .fail

/-- a pointer: a place, or data that stays -/
def rdP (env : Env) (T : TypeId) (x : Operand) (kp : Nat → List PE → RM α) (kd : (t : Ty) → t.I → RM α) : RM α :=
  rdO env T x fun v => match v with
    | .al r p => kp r p
    | .v (.ptr _ t) .s y => match (y : Option t.I) with
      | some c => kd t c
      | none => .fail
    | .v (.ptr _ _) (.o _) (some _) => match self env x with
      | some s => kp s [.der]
      | none => .fail
    | .lz r p => .get r fun w => match w with
      | .v t m y => match getP t m y p with
        | some ⟨.ptr _ _, .o _, some _⟩ => memP r (p ++ [.der]) (kp r (p ++ [.der]))
        | _ => .fail
      | _ => .fail
    | _ => .fail

def atP (r : Nat) (p : List PE) (k : (t : Ty) → Md → t.I → RM α) : RM α :=
  .get r fun w => match w with
    | .v t m x => match getP t m x p with
      | some ⟨u, mu, y⟩ => k u mu y
      | none => .fail
    | _ => .fail

/-! numbers -/

def binI (op : BinOp) (k : IntKind) (x y : Int) : Option ((t : Ty) × t.I) :=
  match op with
  | .add => some ⟨.int k, k.wrap (x + y)⟩
  | .sub => some ⟨.int k, k.wrap (x - y)⟩
  | .mul => some ⟨.int k, k.wrap (x * y)⟩
  | .quo => some ⟨.int k, k.wrap (x.tdiv y)⟩
  | .rem => some ⟨.int k, x.tmod y⟩
  | .and => some ⟨.int k, k.wrap (BitVec.ofInt k.bits x &&& BitVec.ofInt k.bits y).toNat⟩
  | .or => some ⟨.int k, k.wrap (BitVec.ofInt k.bits x ||| BitVec.ofInt k.bits y).toNat⟩
  | .xor => some ⟨.int k, k.wrap (BitVec.ofInt k.bits x ^^^ BitVec.ofInt k.bits y).toNat⟩
  | .andNot => some ⟨.int k, k.wrap (BitVec.ofInt k.bits x &&& ~~~(BitVec.ofInt k.bits y)).toNat⟩
  | .eql => some ⟨.bool, x == y⟩
  | .neq => some ⟨.bool, x != y⟩
  | .lss => some ⟨.bool, decide (x < y)⟩
  | .leq => some ⟨.bool, decide (x ≤ y)⟩
  | .gtr => some ⟨.bool, decide (x > y)⟩
  | .geq => some ⟨.bool, decide (x ≥ y)⟩
  | _ => none

def chkI (op : BinOp) (y : Int) (k : RM α) : RM α :=
  match op with
  | .quo | .rem => .chk (y != 0) k
  | _ => k

def eqI : (t : Ty) → t.I → t.I → Option Bool
  | .int _, x, y => some (@BEq.beq Int _ x y)
  | .bool, x, y => some (@BEq.beq Bool _ x y)
  | .str, x, y => some (@BEq.beq (List UInt8) _ x y)
  | .unit, _, _ => some true
  | .pair a b, x, y => match eqI a x.1 y.1, eqI b x.2 y.2 with
    | some p, some q => some (p && q)
    | _, _ => none
  | .sl _ _, _, _ => none
  | .ptr _ _, _, _ => none
  | .arr _ _, _, _ => none

def Ty.strc : Ty → Bool
  | .unit | .pair _ _ => true
  | _ => false

/-- parts of one shape, taken over -/
def rdParts (env : Env) (T : TypeId) (t : Ty) (n : Nat) : List (Nat × Operand) → Option Md → List t.I → (Option Md → List t.I → RM α) → RM α
  | [], m, z, k => k m z
  | (i, x) :: ps, m, z, k => rdT env T x fun u mu y => match castI u t y, Nat.blt i n with
    | some y, true => match m with
      | none => rdParts env T t n ps (some mu) (z.set i y) k
      | some m => match mu.eqb m with
        | true => rdParts env T t n ps (some m) (z.set i y) k
        | false => .fail
    | _, _ => .fail

/-- the fields of a struct that are given, taken over -/
def rdFields (env : Env) (Ts : Nat → TypeId) : List (Nat × Operand) → (t : Ty) → (m : Md) → t.I → (Md → t.I → RM α) → RM α
  | [], _, m, z, k => k m z
  | (i, x) :: ps, t, m, z, k => rdT env (Ts i) x fun u mu y => match setP t m z [.fld i] u mu y with
    | some (m', z') => rdFields env Ts ps t m' z' k
    | none => .fail

/-- the bounds of a slice expression -/
def bound (env : Env) (x : Option Operand) (d : Int) (k : Int → RM α) : RM α :=
  match x with
  | none => k d
  | some x => rdInt env 0 x fun _ y => k y

/-- captured pointers: their places -/
def rdCaps (env : Env) : List Operand → (List (Nat × List PE) → RM α) → RM α
  | [], k => k []
  | x :: xs, k => rdO env 0 x fun v => match v with
    | .bx r _ => rdCaps env xs fun l => k ((r, []) :: l)
    | _ => rdP env 0 x (fun r p => match p with
      | [] => .fail
      | e :: p => rdCaps env xs fun l => k ((r, e :: p) :: l)) fun _ _ => .fail

def minI (x y : Int) : Int := if y < x then y else x
def maxI (x y : Int) : Int := if y > x then y else x
def foldI (env : Env) (f : Int → Int → Int) (kd : IntKind) : List Operand → Int → (Int → RM α) → RM α
  | [], a, k => k a
  | x :: xs, a, k => rdInt env 0 x fun kd' y => match kEq kd kd' with
      | true => foldI env f kd xs (f a y) k
      | false => .fail

def u8s (l : List Int) : List UInt8 := l.map fun n => UInt8.ofNat n.toNat
def nums (l : List UInt8) : List Int := l.map fun b => (b.toNat : Int)
/-- a byte of a text -/
def bt (l : List UInt8) (i : Int) : Int := ((l.getD i.toNat 0).toNat : Int)

/-- what is put behind a slice: its elements -/
def rdTail (env : Env) (T : TypeId) (x : Operand) (e : TypeId) (t : Ty) (m : Md) (k : List t.I → RM α) : RM α :=
  rdV env T x fun u mu y src => match u, mu, y with
    | .sl e' u, mu, y => match env.is T (.sl e' u), castI (.sl e' u) (.sl e t) y with
      | true, some (y : List t.I) => match m with
        | .s => match mu with
          | .s => k y
          | .o .s => k y
          | mu => match t.flat && mu.noJ with
            | true => k y
            | false => match mu.noJ, src with
              | true, some q => freeze (some q) (k y)
              | _, _ => .fail
        | m => match mu with
          | .o mu => match m.le mu with
            | true => take src (k y)
            | false => .fail
          | _ => .fail
      | _, _ => .fail
    | .str, _, y => match env.is T .str, castI (.sl e (.int .u8)) (.sl e t) (nums y) with
      | true, some (y : List t.I) => k y
      | _, _ => .fail
    | _, _, _ => .fail

/-- an argument: an operand, or a captured pointer's place -/
inductive Arg where
  | op (x : Operand) (T : TypeId)
  | pl (r : Nat) (p : List PE)

def whole (p : List PE) : Bool := match p.getLast? with
  | some .der => true
  | _ => false

def rdA (env : Env) (a : Arg) (k : Nat → List PE → RM α) : RM α :=
  match a with
  | .op x T => rdP env T x k fun _ _ => .fail
  | .pl r p => k r p

/-- a pointer that is handed on: the slot whose own it is -/
def refOf (env : Env) (x : Operand) (k : Nat → TypeId → RM α) : RM α :=
  rdO env 0 x fun v => match v with
    | .al r p => match p with
      | [.der] => .get r fun w => match w with
        | .v (.ptr T _) _ _ => k r T
        | _ => .fail
      | _ => .fail
    | .v (.ptr T _) (.o _) _ => match self env x with
      | some s => k s T
      | none => .fail
    | .lz r p => match p with
      | [] => .get r fun w => match w with
        | .v (.ptr T _) (.o _) _ => k r T
        | _ => .fail
      | _ => .fail
    | _ => .fail

/-- all of them -/
def refsOf (env : Env) : List PK → List Operand → (List (Option (Nat × TypeId)) → RM α) → RM α
  | .ref _ _ _ :: ks, x :: xs, k => refOf env x fun r T => refsOf env ks xs fun rs => k (some (r, T) :: rs)
  | .val _ _ :: ks, _ :: xs, k => refsOf env ks xs fun rs => k (none :: rs)
  | .fn _ :: ks, _ :: xs, k => refsOf env ks xs fun rs => k (none :: rs)
  | [], _, k => k []
  | _, _, _ => .fail

/-- what they point to is put back -/
def backs : (ks : List PK) → DB ks → List (Option (Nat × TypeId)) → RM α → RM α
  | .ref t _ m' :: ks, b, some (r, T) :: rs, k => setS r (.v (.ptr T t) (.o m') (some b.1)) (backs ks b.2 rs k)
  | .val _ _ :: ks, b, _ :: rs, k => backs ks b rs k
  | .fn _ :: ks, b, _ :: rs, k => backs ks b rs k
  | [], _, _, k => k
  | _, _, _, _ => .fail

/-- the arguments of a call, by what is known of the function; the slots that something is moved out of, those that it only looks into -/
def gather (env : Env) (cl : Bool) : (ks : List PK) → List Operand → List TypeId → (DI ks → List Nat → List Nat → RM α) → RM α
  | [], [], _, k => k () [] []
  | .val t m :: ks, x :: xs, Ts, k => rdV env (Ts.headD 0) x fun u mu y src => match castI u t y with
    | none => .fail
    | some y => match m with
      | .s => match mu with
        | .s => gather env cl ks xs Ts.tail fun d ms bs => k (y, d) ms bs
        | _ => match mu.noJ with
          | true => match cl, src with
            | true, some (r, _) => gather env cl ks xs Ts.tail fun d ms bs => match ms.all (fun q => !(Nat.beq q r)) with
              | true => k (y, d) ms (r :: bs)
              | false => .fail
            | _, src => freeze src (gather env cl ks xs Ts.tail fun d ms bs => k (y, d) ms bs)
          | false => .fail
      | m => match m.le mu with
        | true => take src (gather env cl ks xs Ts.tail fun d ms bs => match src with
          | none => k (y, d) ms bs
          | some (r, _) => k (y, d) (r :: ms) bs)
        | false => .fail
  | .ref t m _ :: ks, x :: xs, Ts, k => refOf env x fun r _ => .get r fun w => match w with
    | .v (.ptr _ u) mu y => match (y : Option u.I) with
      | some c => match castI u t c, (Md.o m).le mu with
        | some c', true => take (some (r, [])) (gather env cl ks xs Ts.tail fun d ms bs => k (c', d) (r :: ms) bs)
        | _, _ => .fail
      | none => .fail
    | _ => .fail
  | .fn f :: ks, x :: xs, Ts, k => rdO env (Ts.headD 0) x fun v => match v with
    | .fn g [] [] => match Nat.beq f g with
      | true => gather env cl ks xs Ts.tail fun d ms bs => k ((), d) ms bs
      | false => .fail
    | _ => .fail
  | _, _, _, _ => .fail

/-- a place gets other data of its shape -/
def setAt (r : Nat) (p : List PE) (u : Ty) (mu : Md) (y : u.I) (k : RM α) : RM α :=
  .get r fun w => match w with
    | .v t m x => match getP t m x p with
      | some ⟨u', _, _⟩ => match castI u u' y with
        | some y => match setP t m x p u' mu y with
          | some (m', x') => .kill r p (.put r (.v t m' x') k)
          | none => .fail
        | none => .fail
      | none => .fail
    | _ => .fail

def resV : (ks : List (Ty × Md)) → DR ks → List SV
  | [], _ => []
  | k :: ks, d => .v k.1 k.2 d.1 :: resV ks d.2

def resS (ks : List (Ty × Md)) (d : DR ks) : SV :=
  match resV ks d with
  | [x] => x
  | l => .tup l

/-- the functions among the arguments -/
def fnsOf (env : Env) : List Operand → (List FuncId → RM α) → RM α
  | [], k => k []
  | x :: xs, k => rdO env 0 x fun v => match v with
    | .fn g _ _ => fnsOf env xs fun l => k (g :: l)
    | _ => fnsOf env xs k

/-- a place that hangs on nothing but its own pointer -/
def ptrT : Ty → List PE → Bool
  | .ptr _ _, p => shal p
  | _, _ => false

/-- the shape below a pointer, by fields alone -/
def fldP : Ty → List PE → Option Ty
  | t, [] => some t
  | .pair a _, .fld 0 :: p => fldP a p
  | .pair _ b, .fld (n + 1) :: p => fldP b (.fld n :: p)
  | _, _ => none

/-- slots with pointers to what is handed over: they outlast the call -/
def saveAl (rs : List (Option (Nat × TypeId))) : List Nat → (List (Nat × Nat × List PE × Ty) → RM α) → RM α
  | [], k => k []
  | s :: l, k => .get s fun v => match v with
    | .al r p => match rs.any (fun q => match q with | some (r', _) => Nat.beq r r' | none => false) && shal p with
      | true => .get r fun w => match w with
        | .v t _ _ => saveAl rs l fun a => k ((s, r, p, t) :: a)
        | _ => saveAl rs l k
      | false => saveAl rs l k
    | _ => saveAl rs l k

def backAl : List (Nat × Nat × List PE × Ty) → RM α → RM α
  | [], k => k
  | (s, r, p, t) :: l, k => .get r fun w => match w with
    | .v (.ptr T u) (.o _) (some _) => match t, p with
      | .ptr T' u', .der :: q => match Nat.beq T T' && u.eqb u' && Nat.blt s gh0 && !(Nat.beq s r), fldP u q with
        | true, some _ => .put s (.al r (.der :: q)) (backAl l k)
        | _, _ => backAl l k
      | _, _ => backAl l k
    | _ => backAl l k

def enter (env : Env) (f : FuncId) (xs : List Operand) (Ts : List TypeId) (k : SV → RM α) : RM α :=
  fnsOf env xs fun gs => match env.gam f gs with
  | none => .fail
  | some c => refsOf env c.ins xs fun rs => saveAl rs env.al fun al => gather env c.clsd c.ins xs Ts fun d _ _ =>
      .call (D := DR c.outs × DB c.ins) (E := PI c.pan × DB c.ins) (fun K Kp => c.fn d (fun a b => K (a, b)) (fun p b => Kp (p, b)))
        (fun r => backs c.ins r.2 rs (backAl al (k (resS c.outs r.1)))) (fun r => backs c.ins r.2 rs (backAl al (.pan (PI.pan c.pan r.1))))

/-- an argument of a call that is looked into -/
def argSV (env : Env) (x : Operand) (T : TypeId) (k : SV → RM α) : RM α :=
  rdO env T x fun v => match v with
    | .v t .s y => k (.v t .s y)
    | .v _ .j _ => .fail
    | .v t m y => match self env x with
      | some s => k (.lz s [])
      | none => k (.v t m y)
    | .tup _ => .fail
    | .un => .fail
    | .bx _ _ => .fail
    | v => k v
def argSVs (env : Env) : List Operand → List TypeId → (List SV → RM α) → RM α
  | [], _, k => k []
  | x :: xs, Ts, k => argSV env x (Ts.headD 0) fun v => argSVs env xs Ts.tail fun l => k (v :: l)
def alsOf (l : List (Nat × List PE)) : List SV := l.map fun q => match q.2 with
  | [] => .bx q.1 []
  | p => .al q.1 p

/-- does a number lie in a list? -/
def inB (i : Int) (n : Nat) : Bool := decide (0 ≤ i) && decide (i < n)
def inR (l h : Int) (n : Nat) : Bool := decide (0 ≤ l) && (decide (l ≤ h) && decide (h ≤ n))

/-- part of a row is filled anew -/
def wrL {β : Type} (y : List β) (lo : Nat) (zs : List β) : List β := y.take lo ++ (zs ++ y.drop (lo + zs.length))

/-- a place that begins with a block, or all of a slot -/
def memP0 (r : Nat) (p : List PE) (k : RM α) : RM α :=
  match p with
  | [] => k
  | e :: p => memP r (e :: p) k

/-- of a row that is moved away its length stays known -/
def hdr {α : Type} (src : Src) (t : Ty) (y : t.I) (k : RM α) : RM α :=
  match src with
  | some (r, p) => match p with
    | [] => match t, y with
      | .sl e u, y => setS r (.v (.sl e .unit) .s (List.map (fun _ => ()) (y : List u.I))) k
      | _, _ => k
    | _ => k
  | none => k

def hdrV {α : Type} (v : SV) (src : Src) (t : Ty) (y : t.I) (k : RM α) : RM α :=
  match v with
  | .sub _ _ _ _ => k
  | _ => hdr src t y k

def evB (env : Env) (o : Oper) (b : Builtin) (xs : List Operand) (Ts : List TypeId) : RM Unit :=
  match b, xs, Ts with
  | .len, [x], [T] => rdV env T x fun t _ y _ => match env.is T t with
    | false => match t, y with
      | .sl _ .unit, y => match env.ty T with
        | some (.sl _ _) => fin env o (.v (.int .i64) .s ((List.length y : Nat) : Int))
        | _ => .fail
      | _, _ => .fail
    | true => match t, y with
    | .sl _ _, y => fin env o (.v (.int .i64) .s ((List.length y : Nat) : Int))
    | .str, y => fin env o (.v (.int .i64) .s ((List.length y : Nat) : Int))
    | .arr n _, _ => match inK .i64 n with
      | true => fin env o (.v (.int .i64) .s (n : Int))
      | false => .fail
    | _, _ => .fail
  | .min, x :: xs, _ => rdInt env 0 x fun kd y => foldI env minI kd xs y fun z => fin env o (.v (.int kd) .s z)
  | .max, x :: xs, _ => rdInt env 0 x fun kd y => foldI env maxI kd xs y fun z => fin env o (.v (.int kd) .s z)
  | .append, [x, z], [T, U] => rdO env T x fun v => deref v (self env x) fun t m y src => take src <| hdrV v src t y <| match t, m, y with
    | .sl e t, .o m, (y : List t.I) => match env.is T (.sl e t) && m.noJ with
      | true => rdTail env U z e t m fun (y' : List t.I) =>
        .chk (decide (List.length y + List.length y' ≤ most)) (fin env o (.v (.sl e t) (.o m) (y ++ y')))
      | false => .fail
    | _, _, _ => .fail
  | .clear, [x], [T] => rdO env T x fun v => match v with
    | .sub r p lo hi => memP0 r p <| atP r p fun t m y => match t, m, y with
      | .sl e u, .o mu, (y : List u.I) => match env.is T (.sl e u) with
        | true => .chk (inR lo hi (List.length y)) <| take (some (r, p)) <| setAt r p (.sl e u) (.o mu) (wrL y lo.toNat (List.replicate (hi.toNat - lo.toNat) u.dflt)) (fin env o .un)
        | false => .fail
      | _, _, _ => .fail
    | _ => .fail
  | _, _, _ => .fail

def shlI (k : IntKind) (a b : Int) : Int := k.wrap (a * 2 ^ (min b.toNat k.bits))
def shrI (k : IntKind) (a b : Int) : Int := a.fdiv (2 ^ (min b.toNat k.bits))

def evI (env : Env) (o : Oper) (op : BinOp) (k k' : IntKind) (a b : Int) : RM Unit :=
  match op with
  | .shl => .chk (decide (0 ≤ b)) (fin env o (.v (.int k) .s (shlI k a b)))
  | .shr => .chk (decide (0 ≤ b)) (fin env o (.v (.int k) .s (shrI k a b)))
  | op => match kEq k k', binI op k a b with
    | true, some ⟨t, z⟩ => chkI op b (fin env o (.v t .s z))
    | _, _ => .fail

def evS (env : Env) (o : Oper) (op : BinOp) (a b : List UInt8) : RM Unit :=
  match op with
  | .add => .chk (decide (a.length + b.length ≤ most)) (fin env o (.v .str .s (a ++ b)))
  | .eql => fin env o (.v .bool .s (a == b))
  | .neq => fin env o (.v .bool .s (!(a == b)))
  | _ => .fail

def evL (env : Env) (o : Oper) (op : BinOp) (T : TypeId) (a b : Bool) : RM Unit :=
  match env.is T .bool with
  | true => match op with
    | .eql => fin env o (.v .bool .s (a == b))
    | .neq => fin env o (.v .bool .s (!(a == b)))
    | _ => .fail
  | false => .fail

def isNilS : Operand → Bool
  | .const (.slice none 0 0) => true
  | _ => false
def isNilP : Operand → Bool
  | .const (.pointer none) => true
  | _ => false
def isNil (x : Operand) : Bool := isNilS x || isNilP x

/-- held against nil: of a row without elements that isn't known -/
def evN (env : Env) (o : Oper) (op : BinOp) (T : TypeId) (y : Operand) : (t : Ty) → t.I → RM Unit
  | .sl e u, a => match env.is T (.sl e u) && isNilS y with
    | true => match op with
      | .eql => .ite (List.isEmpty (a : List u.I)) (.any (fin env o (.v .bool .s true)) (fin env o (.v .bool .s false))) (fin env o (.v .bool .s false))
      | .neq => .ite (List.isEmpty (a : List u.I)) (.any (fin env o (.v .bool .s false)) (fin env o (.v .bool .s true))) (fin env o (.v .bool .s true))
      | _ => .fail
    | false => .fail
  | .ptr e u, a => match env.is T (.ptr e u) && isNilP y with
    | true => match op with
      | .eql => fin env o (.v .bool .s (Option.isNone (a : Option u.I)))
      | .neq => fin env o (.v .bool .s (!(Option.isNone (a : Option u.I))))
      | _ => .fail
    | false => .fail
  | _, _ => .fail

def negI (k : IntKind) (a : Int) : Int := k.wrap (0 - a)
def notI (k : IntKind) (a : Int) : Int := k.wrap (BitVec.ofInt k.bits (if k.signed then -1 else k.max) ^^^ BitVec.ofInt k.bits a).toNat

/-- the place of an array's element -/
def idxArr (env : Env) (o : Oper) (T : TypeId) (i : Int) (r : Nat) (p : List PE) : RM Unit :=
  atP r p fun t m _ => match t with
    | .arr n u => match env.is T (.arr n u) && !m.isJ with
      | true => .chk (inB i n) (fin env o (.al r (p ++ [.idx i])))
      | false => .fail
    | _ => .fail

/-- the place of an element of a slice -/
def idxA (env : Env) (o : Oper) (T : TypeId) (i : Int) (t : Ty) (m : Md) (y : t.I) (src : Src) : RM Unit :=
  match t, m, y with
  | .sl e t, .s, y => match env.is T (.sl e t) && !(Nat.beq t.size 0) with
    | true => .chk (inB i (List.length y)) (fin env o (.v (.ptr e t) .s (some (List.getD y i.toNat t.dflt))))
    | false => .fail
  | .sl e t, .o _, y => match env.is T (.sl e t), src with
    | true, some (r, p) => .chk (inB i (List.length y)) (memP r (p ++ [.idx i]) (fin env o (.al r (p ++ [.idx i]))))
    | _, _ => .fail
  | _, _, _ => .fail

/-- structs held against each other -/
def evQ (env : Env) (o : Oper) (op : BinOp) (T : TypeId) (t u : Ty) (a : t.I) (b : u.I) : RM Unit :=
  match t.strc && (env.is T t && env.eq T), castI u t b with
  | true, some b => match eqI t a b with
    | some z => match op with
      | .eql => fin env o (.v .bool .s z)
      | .neq => fin env o (.v .bool .s (!z))
      | _ => .fail
    | none => .fail
  | _, _ => .fail

/-- a slice of what is its own: it stays in its place, or stays for ever -/
def cutS (env : Env) (o : Oper) (e : TypeId) (t : Ty) (y : List t.I) (l h : Int) (src : Src) : RM Unit :=
  match o.dst with
  | some d => match env.sb d, src with
    | true, some (r, p) => fin env o (.sub r p l h)
    | _, src => freeze src (fin env o (.v (.sl e t) .s (rng y l h)))
  | none => freeze src (fin env o (.v (.sl e t) .s (rng y l h)))

/-- is it a place within a row? -/
def hasIdx : List PE → Bool
  | [] => false
  | .idx _ :: _ => true
  | _ :: p => hasIdx p
/-- data that goes to a place within a row: of the row's mode -/
def meltP (r : Nat) (p : List PE) (m : Md) (k : Md → RM α) : RM α :=
  match hasIdx p with
  | false => k m
  | true => .get r fun w => match w with
    | .v t0 m0 x0 => match getP t0 m0 x0 p with
      | some ⟨_, mu, _⟩ => match mu.le m with
        | true => k mu
        | false => k m
      | none => k m
    | _ => k m

/-- is it a pointer's type? -/
def isPtr (env : Env) (T : TypeId) : Bool := match env.ty T with
  | some (.ptr _ _) => true
  | _ => false
/-- a slot with its own pointer: 'v' -/
def ownR (r : Nat) (k : RM α) : RM α := .get r fun w => match w with
  | .v (.ptr _ _) (.o _) (some _) => k
  | _ => .fail
/-- a pointer from outside gets a cell, which stays -/
def boxAl (env : Env) (o : Oper) (T : TypeId) (r : Nat) : RM Unit := match Nat.ble gh0 r && isPtr env T with
  | true => ownR r (fin env o (.bx r []))
  | false => .fail
def loadBx (env : Env) (o : Oper) (T : TypeId) (r : Nat) : RM Unit := match isPtr env T with
  | true => ownR r (fin env o (.al r [.der]))
  | false => .fail

def evOp (env : Env) (o : Oper) : RM Unit :=
  match o.op with
  | .move x => rdO env o.type x fun v => match v with
    | .v _ .s _ => fin env o v
    | .v _ .j _ => .fail
    | .v t _ y => match self env x with
      | some s => match fzd env o with
        | true => freeze (some (s, [])) (fin env o (.v t .s y))
        | false => fin env o (.lz s [])
      | none => fin env o v
    | .tup l => match self env x with
      | some s => .put s .un (fin env o (.tup l))
      | none => .fail
    | .un => .fail
    | .bx _ _ => .fail
    | v => fin env o v
  | .assign x => rdO env o.type x fun v => match v with
    | .v _ .s _ => fin env o v
    | .v _ _ _ => rdT env o.type x fun t m y => fin env o (.v t m y)
    | .lz _ _ => rdT env o.type x fun t m y => fin env o (.v t m y)
    | .sub _ _ _ _ => rdT env o.type x fun t m y => fin env o (.v t m y)
    | .tup _ => .fail
    | .un => .fail
    | .bx _ _ => .fail
    | v => fin env o v
  | .pick c a b => rdV env 0 c fun tc _ c _ => match tc, c with
    | .bool, c => .ite c (rdV env o.type a fun t m x _ => match m with
        | .s => fin env o (.v t .s x)
        | _ => .fail) (rdV env o.type b fun t m x _ => match m with
        | .s => fin env o (.v t .s x)
        | _ => .fail)
    | _, _ => .fail
  | .alloc T => match env.ty T with
    | some t => fin env o (.v (.ptr T t) (.o (t.ownE env.om)) (some t.dflt))
    | none => .fail
  | .box T x => rdO env 0 x fun v => match v with
    | .al r [.der] => boxAl env o T r
    | _ => rdT env T x fun t m y => match env.is T t && m.noJ with
      | true => fin env o (.v (.ptr T t) (.o m) (some y))
      | false => .fail
  | .build T ps => match env.ty T with
    | some (.arr n t) => rdParts env T t n ps.toList (some .s) (List.replicate n t.dflt) fun _ z => fin env o (.v (.arr n t) .s z)
    | some t => match t.strc with
      | true => rdFields env (fun _ => 0) ps.toList t (t.ownE env.om) t.dflt fun m z => fin env o (.v t m z)
      | false => .fail
    | none => .fail
  | .buildSlice T n ps => match env.ty T with
    | some (.sl e t) => match Nat.ble (n * t.size) 16777216 && Nat.ble n 16777216 with
      | true => rdParts env e t n ps.toList none (List.replicate n t.dflt) fun m z => match m with
        | none => fin env o (.v (.sl e t) (.o .s) z)
        | some m => fin env o (.v (.sl e t) (.o m) z)
      | false => .fail
    | _ => .fail
  | .load T a => rdO env 0 a fun v => match v with
    | .bx r _ => loadBx env o T r
    | _ => rdP env 0 a (fun r p => atP r p fun t m y => match env.is T t with
      | true => match m with
        | .s => fin env o (.v t .s y)
        | .j => .fail
        | _ => fin env o (.lz r p)
      | false => .fail) fun t y => match env.is T t with
      | true => fin env o (.v t .s y)
      | false => .fail
  | .store T a x => rdT env T x fun t m y => match env.is T t && m.noJ with
    | true => rdP env 0 a (fun r p => meltP r p m fun m => setAt r p t m y (match env.fs r, p with
      | true, [.der] => .get r fun w => match w with
        | .v (.ptr T' t') (.o m') (some y') => match m'.noJ with
          | true => freeze (some (r, [])) (fin env o .un)
          | false => .fail
        | _ => .fail
      | _, _ => fin env o .un)) fun _ _ => .fail
    | false => .fail
  | .nilCheck x => rdO env 0 x fun v => match v with
    | .v (.ptr T t) .s y => .chk (Option.isSome y) (fin env o (.v (.ptr T t) .s y))
    | .v (.ptr _ _) (.o _) (some _) => match self env x with
      | some s => fin env o (.al s [.der])
      | none => .fail
    | .al r p => memP r p (fin env o (.al r p))
    | .lz r p => atP r p fun t m y => match t, m, y with
      | .ptr _ _, .o _, some _ => memP r (p ++ [.der]) (fin env o (.al r (p ++ [.der])))
      | _, _, _ => .fail
    | _ => .fail
  | .binOp op T x y _ => rdV env T x fun t m a _ => match isNil y with
    | true => evN env o op T y t a
    | false => rdV env T y fun u m' b _ => match t, u, a, b with
      | .int k, .int k', a, b => evI env o op k k' a b
      | .str, .str, a, b => evS env o op a b
      | .bool, .bool, a, b => evL env o op T a b
      | t, u, a, b => match m.noJ && m'.noJ with
        | true => evQ env o op T t u a b
        | false => .fail
  | .unOp op T x => rdV env T x fun t _ a _ => match op, t, a with
    | .not, .bool, a => fin env o (.v .bool .s (!a))
    | .neg, .int k, a => fin env o (.v (.int k) .s (negI k a))
    | .xor, .int k, a => fin env o (.v (.int k) .s (notI k a))
    | _, _, _ => .fail
  | .convert S D x => match env.ty S, env.ty D with
    | some _, some (.int k) => rdInt env S x fun _ a => fin env o (.v (.int k) .s (k.wrap a))
    | some _, some .str => rdV env S x fun t m a _ => match env.is S t && m.noJ, t, a with
      | true, .sl _ (.int .u8), a => fin env o (.v .str .s (u8s a))
      | true, .int _, a => fin env o (.v .str .s (runeB a))
      | _, _, _ => .fail
    | some _, some (.sl e (.int .u8)) => rdV env S x fun t m a src => match env.is S t, t, m, a with
      | true, .str, _, a => .chk (decide (List.length a ≤ most)) (fin env o (.v (.sl e (.int .u8)) (.o .s) (nums a)))
      | true, .sl e' (.int .u8), .o .s, a => match Nat.beq S D with
        | true => take src (.chk (Nat.blt 0 (List.length a)) (fin env o (.v (.sl e' (.int .u8)) (.o .s) a)))
        | false => .fail
      | _, _, _, _ => .fail
    | _, _ => .fail
  | .makeFunc (.func f) first caps => rdCaps env first.toList fun l => rdCaps env caps.toList fun l' => fin env o (.fn f l l')
  | .makeInterface T x => rdV env T x fun t m y _ => match t.flat && env.is T t && m.isS with
    | true => fin env o (.ifc T t y)
    | false => .fail
  | .panic x => rdO env 0 x fun v => match v with
    | .ifc T t y => .pan ⟨T, t, y⟩
    | _ => .fail
  | .makeSlice T n c => match env.ty T with
    | some (.sl e t) => rdInt env 0 n fun kn a => rdInt env 0 c fun kc b => match kn, kc with
      | .i64, .i64 => .chk (inR a b most) (fin env o (.v (.sl e t) (.o (t.ownE env.om)) (List.replicate a.toNat t.dflt)))
      | _, _ => .fail
    | _ => .fail
  | .slice T x lo hi none => rdO env T x fun v => derefX v (self env x) fun t m y src => match t, y with
    | .str, y => match env.is T .str with
      | true => bound env lo 0 fun l => bound env hi (List.length y : Nat) fun h =>
        .chk (inR l h (List.length y)) (fin env o (.v .str .s (rng y l h)))
      | false => .fail
    | .sl e t, y => match env.is T (.sl e t) with
      | true => bound env lo 0 fun l => bound env hi (List.length y : Nat) fun h =>
        .chk (inR l h (List.length y))
          (match m with
          | .s => fin env o (.v (.sl e t) .s (rng y l h))
          | m => match m.noJ with
            | true => cutS env o e t y l h src
            | false => .fail)
      | false => .fail
    | _, _ => .fail
  | .fieldAddr S x i => rdP env 0 x (fun r p => atP r p fun t m y => match env.is S t, getP t m y [.fld i] with
      | true, some ⟨u, _, _⟩ => match Nat.beq u.size 0 with
        | false => fin env o (.al r (p ++ [.fld i]))
        | true => .fail
      | _, _ => .fail) fun t y => match env.is S t, getP t .s y [.fld i] with
    | true, some ⟨u, .s, z⟩ => match Nat.beq u.size 0 with
      | false => fin env o (.v (.ptr 0 u) .s (some z))
      | true => .fail
    | _, _ => .fail
  | .field T x i => rdX env T x fun t m y src => match env.is T t, getP t m y [.fld i] with
    | true, some ⟨u, .s, z⟩ => fin env o (.v u .s z)
    | true, some ⟨_, .j, _⟩ => .fail
    | true, some ⟨_, _, _⟩ => match src with
      | some (r, p) => fin env o (.lz r (p ++ [.fld i]))
      | none => .fail
    | _, _ => .fail
  | .indexAddr T x i => rdInt env 0 i fun _ i => rdO env T x fun v => match v with
      | .al r p => idxArr env o T i r p
      | .v (.ptr _ _) (.o _) (some _) => rdP env 0 x (fun r p => idxArr env o T i r p) fun _ _ => .fail
      | v => derefX v (self env x) fun t m y src => idxA env o T i t m y src
  | .index T x i => rdInt env 0 i fun _ i => rdV env T x fun t m y _ => match t, m, y with
      | .str, _, y => match env.is T .str with
        | true => .chk (inB i (List.length y)) (fin env o (.v (.int .u8) .s (bt y i)))
        | false => .fail
      | .arr n t, .s, y => match env.is T (.arr n t) with
        | true => .chk (inB i n) (fin env o (.v t .s (List.getD y i.toNat t.dflt)))
        | false => .fail
      | _, _, _ => .fail
  | .extract x i => rdO env 0 x fun v => match v with
    | .tup l => match l[i]? with
      | some (.v t .s y) => fin env o (.v t .s y)
      | some (.v t m y) => match self env x with
        | some s => setS s (.tup (l.set i .un)) (fin env o (.v t m y))
        | none => .fail
      | _ => .fail
    | _ => .fail
  | .call c => match c.callee with
    | .builtin b => evB env o b c.args.toList c.argTypes.toList
    | .value x => rdO env 0 x fun v => match v with
      | .fn f fst caps => match env.il f with
        | true => argSVs env c.args.toList c.argTypes.toList fun xs => .inl f o.dst (alsOf fst ++ (xs ++ alsOf caps)) fun r => fin env o r
        | false => match fst, caps with
          | [], [] => enter env f c.args.toList c.argTypes.toList fun r => fin env o r
          | _, _ => .fail
      | _ => .fail
    | _ => .fail
  | _ => .fail

/-! code -/

inductive Ex where
  | normal
  | exit (id : Nat)
  | ret
  | pan (p : PanV)

/-- an operation that is not carried out -/
def skipS (env : Env) (st : St) (dst : Option Nat) : St := match dst with
  | some d => st.put (env.b + d) (.tup [])
  | none => st

noncomputable def skipK {R : Type} (env : Env) (st : St) (dst : Option Nat) (K : St → Option R) : Option R := match dst with
  | some d => match Nat.blt d env.n with
    | true => K (st.put (env.b + d) (.tup []))
    | false => dn200
  | none => K st
theorem skipK_inv {R : Type} {env : Env} {st : St} {dst : Option Nat} {K : St → Option R} {r : R} (h : skipK env st dst K = some r) : K (skipS env st dst) = some r ∧ ∀ d, dst = some d → d < env.n := by
  unfold skipK at h
  split at h
  · split at h
    · rename_i d hd
      exact ⟨h, fun d' hd' => by cases hd'; exact Nat.lt_of_lt_of_le (Nat.lt_succ_self _) (Nat.le_of_ble_eq_true hd)⟩
    · cases h
  · exact ⟨h, nofun⟩

/-- an operation, if its guard says so -/
noncomputable def evG {R : Type} (env : Env) (C : Cx R) (all : List Oper) (o : Oper) (st : St) (K : St → Option R) : Option R :=
  match o.guard with
  | none => (evOp env o).run C st fun _ st => K st
  | some (j, want) => match (match all[j]? with | some oj => oj.dst | none => none) with
    | none => none
    | some d => match Nat.blt d env.n with
      | false => none
      | true => match st (env.b + d) with
        | .v .bool .s b => cond b
            (match want with
              | true => (evOp env o).run C (st.put (env.b + d) (.v .bool .s true)) fun _ st => K st
              | false => skipK env (st.put (env.b + d) (.v .bool .s true)) o.dst K)
            (match want with
              | false => (evOp env o).run C (st.put (env.b + d) (.v .bool .s false)) fun _ st => K st
              | true => skipK env (st.put (env.b + d) (.v .bool .s false)) o.dst K)
        | .tup [] => skipK env st o.dst K
        | _ => none

/-- the operations of a region, in the text's order ('all': of the whole region) -/
noncomputable def evOps {R : Type} (env : Env) (C : Cx R) (all : List Oper) : List Oper → St → (St → Option R) → Option R
  | [], st, K => K st
  | o :: os, st, K => evG env C all o st fun st => evOps env C all os st K

/-- operations that look at no memory -/
def isPure : Op → Bool
  | .move _ | .assign _ | .pick _ _ _ | .build _ _ | .nilCheck _ | .binOp _ _ _ _ _ | .unOp _ _ _ | .makeFunc (.func _) _ _ | .slice _ _ _ _ none | .fieldAddr _ _ _ | .field _ _ _ | .indexAddr _ _ _ | .index _ _ _ | .extract _ _ => true
  | .call c => match c.callee with
    | .builtin .len | .builtin .min | .builtin .max => true
    | _ => false
  | _ => false

def isLoad : Op → Bool
  | .load _ _ => true
  | _ => false

/-- it yields the same whatever is done meanwhile -/
def isConvI (env : Env) : Op → Bool
  | .convert _ D _ => match env.ty D with
    | some (.int _) => true
    | _ => false
  | _ => false
def stable (env : Env) (ro : Bool) (st : St) (o : Oper) : Bool := isPure o.op || (isConvI env o.op || match o.op with
  | .load _ (.tmp s) => ro || match st (env.b + s) with
    | .v (.ptr _ _) .s _ => true
    | .tup [] => true
    | .bx _ _ => true
    | _ => false
  | _ => false)

/-- the same of all -/
noncomputable def evAll {R : Type} : List (Option R) → Option R
  | [] => dn200
  | x :: xs => match xs with
    | [] => x
    | _ => both x (evAll xs)

def opAt (ops : Array Oper) (i : Nat) (f : Oper → Bool) : Bool := match ops[i]? with
  | some o => f o
  | none => false

/-- a region that draws its order -/
noncomputable def evDraw {R : Type} (env : Env) (C : Cx R) (ops : Array Oper) (ro : Bool) : Nat → Array Bool → St → (St → Option R) → Option R
  | 0, listed, st, K => match Region.ready .any ops listed with
    | [] => K st
    | _ => none
  | fuel + 1, listed, st, K => match (Region.ready .any ops listed).find? (fun i => Region.free .any ops listed i && opAt ops i (stable env ro st)) with
    | some i => match ops[i]? with
      | some o => evG env C ops.toList o st fun st => evDraw env C ops ro fuel (listed.setIfInBounds i true) st K
      | none => none
    | none => match Region.ready .any ops listed with
      | [] => K st
      | l => match ro with
        | false => evAll (l.map fun i => match ops[i]? with
          | some o => evG env C ops.toList o st fun st => evDraw env C ops ro fuel (listed.setIfInBounds i true) st K
          | none => none)
        | true => none

/-- no operation's slot is one that a panic needs -/
def dstOk (rs : List Nat) (ops : Array Oper) : Bool := ops.toList.all fun o => match o.dst with
  | some d => rs.all fun r => !(Nat.beq r d)
  | none => true

/-- the number of the first region -/
def firstId : Code → Option Nat
  | .region id _ _ => some id
  | .seq a b => match firstId a with
    | some i => some i
    | none => firstId b
  | .block _ c => firstId c
  | .loop c => firstId c
  | .scope c => firstId c
  | _ => none

/-- what is known of the loops: by the number of the first region; of joined code ('true'): by the number of the first region behind it -/
abbrev Loops := Bool → Nat → (R : Type) → St → (Ex → St → Option R) → Option R
/-- what is known of calls that are looked into -/
abbrev Inl := FuncId → Option Nat → (R : Type) → St → List SV → (SV → St → Option R) → (PanV → St → Option R) → Option R

def cx {R : Type} (inl : Inl) (K : Ex → St → Option R) : Cx R := ⟨fun p st => K (.pan p) st, fun f d st xs k => inl f d R st xs k (fun p st => K (.pan p) st)⟩
def Cx.no {R : Type} : Cx R := ⟨fun _ _ => none, fun _ _ _ _ _ => none⟩

/-- where ways meet: slots that stay for ever from here on -/
def frzAll : List (Nat × Bool) → RM Unit
  | [] => .ret ()
  | (s, z) :: l => match z with
    | false => frzAll l
    | true => .get s fun v => match v with
      | .v _ .s _ => frzAll l
      | .v _ .j _ => .fail
      | .v _ _ _ => freeze (some (s, [])) (frzAll l)
      | _ => frzAll l
noncomputable def coerce {R : Type} (l : List (Nat × Bool)) (st : St) (K : St → Option R) : Option R := (frzAll l).run Cx.no st fun _ st => K (st.only (l.map Prod.fst))

def joinAt (env : Env) (b : Code) : Option Nat := match firstId b with
  | some i => match env.js i with
    | true => some i
    | false => none
  | none => none

noncomputable def evC {R : Type} (env : Env) (lp : Loops) (inl : Inl) : Code → St → (Ex → St → Option R) → Option R
  | .skip, st, K => K .normal st
  | .region id ops false, st, K => evOps env (cx inl K) ops.toList ops.toList (st.at (env.lv id)) fun st => K .normal st
  | .region id ops true, st, K => match Region.noSelect ops && dstOk env.rs ops with
    | true => evDraw env (cx inl K) ops (ops.toList.all fun o => isPure o.op || isLoad o.op) ops.size (Array.replicate ops.size false) (st.at (env.lv id)) fun st => K .normal st
    | false => none
  | .seq a b, st, K => match joinAt env b with
    | none => evC env lp inl a st fun e st => match e with
      | .normal => evC env lp inl b st K
      | e => K e st
    | some i => lp true i R st fun e st => match e with
      | .normal => evC env lp inl b st K
      | e => K e st
  | .cond c a b, st, K => match c with
    | .tmp s => match Nat.blt s env.n with
      | false => none
      | true => match st (env.b + s) with
        | .v .bool .s x => cond x (evC env lp inl a (st.put (env.b + s) (.v .bool .s true)) K) (evC env lp inl b (st.put (env.b + s) (.v .bool .s false)) K)
        | _ => none
    | _ => none
  | .block id c, st, K => evC env lp inl c st fun e st => match e with
    | .exit j => match Nat.beq j id with
      | true => K .normal st
      | false => K (.exit j) st
    | e => K e st
  | .loop c, st, K => match firstId c with
    | some i => lp false i R st K
    | none => none
  | .exit id, st, K => K (.exit id) st
  | .ret, st, K => K .ret st
  | .scope c, st, K => evC env lp inl c st K
  | _, _, _ => none

/-- a loop's rounds; what is kept at its head, and behind it -/
noncomputable def lrounds {R : Type} (env : Env) (lp : Loops) (inl : Inl) (c : Code) (hd : List (Nat × Bool)) (out : Ex → List (Nat × Bool)) : Nat → St → (Ex → St → Option R) → Option R
  | 0, _, _ => none
  | n + 1, st, K => evC env lp inl c st fun e st => match e with
    | .normal => coerce hd st fun st => lrounds env lp inl c hd out n st K
    | e => coerce (out e) st (K e)

def LoopOk (env : Env) (lp : Loops) (inl : Inl) (c : Code) : Prop := ∀ i, firstId c = some i → ∀ R st K r, lp false i R st K = some r → ∃ (hd : List (Nat × Bool)) (out : Ex → List (Nat × Bool)) (n : Nat), coerce hd st (fun st => lrounds env lp inl c hd out n st K) = some r
def JoinOk (env : Env) (lp : Loops) (inl : Inl) (a : Code) (i : Nat) : Prop := ∀ R st K r, lp true i R st K = some r → ∃ (hd : List (Nat × Bool)) (out : Ex → List (Nat × Bool)), coerce hd st (fun st => evC env lp inl a st fun e st => coerce (out e) st (K e)) = some r

/-- what is said of the loops is so -/
def LoopsOk (env : Env) (lp : Loops) (inl : Inl) : Code → Prop
  | .seq a b => LoopsOk env lp inl a ∧ LoopsOk env lp inl b ∧ ∀ i, joinAt env b = some i → JoinOk env lp inl a i
  | .cond _ a b => LoopsOk env lp inl a ∧ LoopsOk env lp inl b
  | .block _ c => LoopsOk env lp inl c
  | .scope c => LoopsOk env lp inl c
  | .loop c => LoopOk env lp inl c ∧ LoopsOk env lp inl c
  | _ => True

/-! calls that are looked into -/

/-- nothing of the slots from b on is named any more -/
def hi (b r : Nat) : Bool := Nat.ble b r && Nat.blt r gh0
def SV.cut (b : Nat) : SV → SV
  | .al r p => cond (hi b r) .un (.al r p)
  | .lz r p => cond (hi b r) .un (.lz r p)
  | .sub r p l h => cond (hi b r) .un (.sub r p l h)
  | .fn f fst caps => cond ((fst ++ caps).any fun c => hi b c.1) .un (.fn f fst caps)
  | .bx r p => cond (hi b r) .un (.bx r p)
  | u => u
def St.enter (st : St) (b : Nat) (xs : List SV) : St := fun i => match hi b i with
  | true => (xs.getD (i - b) .un).cut b
  | false => (st i).cut b
def St.leave (st : St) (b : Nat) : St := fun i => match hi b i with
  | true => .un
  | false => (st i).cut b

end
end Go.Trm
