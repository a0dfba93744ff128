import Derived.Calls
import Derived.Orders
import Derived.LoopN
import Derived.Scope
set_option linter.unusedVariables false
set_option linter.unusedSimpArgs false
namespace Go.Trm
inductive Ty where
 |int (k:IntKind)
 |bool
 |str
 |sl (e:TypeId) (t:Ty)
 |ptr (T:TypeId) (t:Ty)
 |unit
 |pair (a b:Ty)
 |arr (n:Nat) (t:Ty)
 |err
def Ty.I:Ty→Type
 | .int _=>Int
 | .bool=>Bool
 | .str=>List UInt8
 | .sl _ t=>List t.I
 | .ptr _ t=>Option t.I
 | .unit=>Unit
 | .pair a b=>a.I×b.I
 | .arr _ t=>List t.I
 | .err=>Bool
def Ty.dflt:(t:Ty)→t.I
 | .int _=>(0:Int)
 | .bool=>false
 | .str=>([]:List UInt8)
 | .sl _ t=>([]:List t.I)
 | .ptr _ t=>(none:Option t.I)
 | .unit=>()
 | .pair a b=>(a.dflt,b.dflt)
 | .arr n t=>List.replicate n t.dflt
 | .err=>false
def kEq:IntKind→IntKind→Bool
 | .i8,.i8 | .i16,.i16 | .i32,.i32 | .i64,.i64 | .u8,.u8 | .u16,.u16 | .u32,.u32 | .u64,.u64=>true
 |_,_=>false
def Ty.eqb:Ty→Ty→Bool
 | .int k,.int k'=>kEq k k'
 | .bool,.bool | .str,.str | .unit,.unit | .err,.err=>true
 | .sl e t,.sl e' t'=>Nat.beq e e'&&t.eqb t'
 | .ptr e t,.ptr e' t'=>Nat.beq e e'&&t.eqb t'
 | .pair a b,.pair a' b'=>a.eqb a'&&b.eqb b'
 | .arr n t,.arr n' t'=>Nat.beq n n'&&t.eqb t'
 |_,_=>false
theorem zQXa {k k':IntKind} (h:kEq k k'=true):k=k':=by cases k<;>cases k'<;>first|rfl|exact absurd h (by decide)
theorem Ty.eqb_eq:∀ {t t':Ty},t.eqb t'=true→t=t':=by
 intro t
 induction t with
 |int k=>intro t' h; cases t'<;>simp only[Ty.eqb,Bool.false_eq_true]at h; rw[zQXa h]
 |bool=>intro t' h; cases t'<;>simp only[Ty.eqb,Bool.false_eq_true]at h; rfl
 |str=>intro t' h; cases t'<;>simp only[Ty.eqb,Bool.false_eq_true]at h; rfl
 |err=>intro t' h; cases t'<;>simp only[Ty.eqb,Bool.false_eq_true]at h; rfl
 |unit=>intro t' h; cases t'<;>simp only[Ty.eqb,Bool.false_eq_true]at h; rfl
 |sl e t ih=>intro t' h; cases t'<;>simp only[Ty.eqb,Bool.false_eq_true,Bool.and_eq_true]at h; rw[Nat.eq_of_beq_eq_true h.1,ih h.2]
 |ptr e t ih=>intro t' h; cases t'<;>simp only[Ty.eqb,Bool.false_eq_true,Bool.and_eq_true]at h; rw[Nat.eq_of_beq_eq_true h.1,ih h.2]
 |pair a b iha ihb=>intro t' h; cases t'<;>simp only[Ty.eqb,Bool.false_eq_true,Bool.and_eq_true]at h; rw[iha h.1,ihb h.2]
 |arr n t ih=>intro t' h; cases t'<;>simp only[Ty.eqb,Bool.false_eq_true,Bool.and_eq_true]at h; rw[Nat.eq_of_beq_eq_true h.1,ih h.2]
def castI (t t':Ty) (x:t.I):Option t'.I:=if h:t.eqb t'=true then some (Ty.eqb_eq h ▸ x) else none
def Ty.flat:Ty→Bool
 | .int _ | .bool | .str | .unit=>true
 | .sl _ _ | .ptr _ _ | .err=>false
 | .pair a b=>a.flat&&b.flat
 | .arr _ t=>t.flat
inductive Md where
 |s
 |j
 |o (m:Md)
 |p (a b:Md)
def Md.isS:Md→Bool
 | .s=>true
 |_=>false
def Md.isJ:Md→Bool
 | .j=>true
 |_=>false
def Md.mkp:Md→Md→Md
 | .s,.s => .s
 |a,b => .p a b
def Md.fst:Md→Md
 | .p a _=>a
 |m=>m
def Md.snd:Md→Md
 | .p _ b=>b
 |m=>m
def Md.el:Md→Md
 | .o m=>m
 |m=>m
def Md.eqb:Md→Md→Bool
 | .s,.s | .j,.j=>true
 | .o a,.o b=>a.eqb b
 | .p a b,.p c d=>a.eqb c&&b.eqb d
 |_,_=>false
def Ty.own:Ty→Md
 | .sl _ _ => .o .s
 | .pair a b => .mkp a.own b.own
 |_ => .s
def Ty.ownE (om:TypeId→Md):Ty→Md
 | .sl e _ => .o (om e)
 | .pair a b => .mkp (a.ownE om) (b.ownE om)
 |_ => .s
inductive PE where
 |fld (i:Nat)
 |der
 |idx (i:Int)
inductive SV where
 |v (t:Ty) (m:Md) (x:t.I)
 |al (r:Nat) (p:List PE)
 |lz (r:Nat) (p:List PE)
 |sub (r:Nat) (p:List PE) (lo hi:Int)
 |fn (f:FuncId) (fst caps:List (Nat×List PE))
 |bx (r:Nat) (p:List PE)
 |ifc (T:TypeId) (t:Ty) (x:t.I)
 |tup (l:List SV)
 |nil
 |un
abbrev St:=Nat→SV
def St.put (st:St) (s:Nat) (v:SV):St:=fun i=>match Nat.beq i s with|true=>v|false=>st i
def St.ofList:List (Nat×SV)→St
 |[]=>fun _ => .un
 |(s,v)::l=>fun i=>match Nat.beq i s with|true=>v|false=>St.ofList l i
def St.only (st:St) (l:List Nat):St:=St.ofList (l.map fun s=>(s,st s))
def Ty.size:Ty→Nat
 | .unit=>0
 | .pair a b=>a.size+b.size
 | .arr n t=>n*t.size
 |_=>1
def getP:(t:Ty)→(m:Md)→t.I→List PE→Option ((u:Ty)×Md×u.I)
 |t,m,x,[]=>some ⟨t,m,x⟩
 | .pair a _b,m,x,.fld 0::p=>getP a m.fst x.1 p
 | .pair _a b,m,x,.fld (n+1)::p=>getP b m.snd x.2 (.fld n::p)
 | .ptr _ t,m,x,.der::p=>match (x:Option t.I) with
  |some c=>getP t m.el c p
  |none=>none
 | .sl _ t,m,x,.idx i::p=>getP t m.el (List.getD (x:List t.I) i.toNat t.dflt) p
 | .arr _ t,m,x,.idx i::p=>getP t m.el (List.getD (x:List t.I) i.toNat t.dflt) p
 |_,_,_,_=>none
def setP:(t:Ty)→(m:Md)→t.I→List PE→(u:Ty)→Md→u.I→Option (Md×t.I)
 |t,_,_,[],u,mu,y=>match castI u t y with
  |some y=>some (mu,y)
  |none=>none
 | .pair a _b,m,x,.fld 0::p,u,mu,y=>match setP a m.fst x.1 p u mu y with
  |some (m',x')=>some (.mkp m' m.snd,(x',x.2))
  |none=>none
 | .pair _a b,m,x,.fld (n+1)::p,u,mu,y=>match setP b m.snd x.2 (.fld n::p) u mu y with
  |some (m',x')=>some (.mkp m.fst m',(x.1,x'))
  |none=>none
 | .ptr _ t,.o m,x,.der::p,u,mu,y=>match (x:Option t.I) with
  |some c=>match setP t m c p u mu y with
   |some (m',c')=>some (.o m',some c')
   |none=>none
  |none=>none
 | .sl _ t,.o m,x,.idx i::p,u,mu,y=>match setP t m (List.getD (x:List t.I) i.toNat t.dflt) p u mu y with
  |some (m',c')=>match m'.eqb m with
   |true=>some (.o m,List.set (x:List t.I) i.toNat c')
   |false=>none
  |none=>none
 | .arr _ t,m,x,.idx i::p,u,mu,y=>match m.isJ,setP t m.el (List.getD (x:List t.I) i.toNat t.dflt) p u mu y with
  |false,some (m',c')=>match m'.eqb m.el with
   |true=>some (m,List.set (x:List t.I) i.toNat c')
   |false=>none
  |_,_=>none
 |_,_,_,_,_,_,_=>none
def pre:List PE→List PE→Bool
 |[],_=>true
 | .fld i::p,.fld j::q=>cond (Nat.beq i j) (pre p q) true
 | .der::p,.der::q=>pre p q
 | .idx _::p,.idx _::q=>pre p q
 |_,_=>false
def flds:List PE→Bool
 |[]=>true
 | .fld _::p=>flds p
 |_=>false
def rootB:Ty→List PE→Bool
 | .ptr _ _,.der::_=>true
 | .sl _ _,.idx _::_=>true
 |_,_=>false
def shal:List PE→Bool
 | .der::p=>flds p
 |_=>false
def gh0:Nat:=1000000
def stays (p q:List PE):Bool:=!p.isEmpty&&(pre q p || shal q)
def St.kill (st:St) (r:Nat) (p:List PE):St:=fun i=>match st i with
 | .al r' q=>cond (Nat.beq r r'&&!(stays p q)) .un (.al r' q)
 | .lz r' q=>cond (Nat.beq r r'&&!(q.isEmpty&&!p.isEmpty)) .un (.lz r' q)
 | .sub r' q lo hi=>cond (Nat.beq r r') .un (.sub r' q lo hi)
 | .fn f fst caps=>cond ((fst++caps).any fun c=>Nat.beq r c.1&&!(stays p c.2)) .un (.fn f fst caps)
 |v=>v
open Classical in
noncomputable def both {R:Type} (x y:Option R):Option R:=if x=y then x else none
theorem zpRa {R:Type} {x y:Option R} {r:R} (h:both x y=some r):x=some r∧y=some r:=by
 unfold both at h;split at h
 ·rename_i he; exact ⟨h,he ▸ h⟩
 ·cases h
theorem zKaa {R:Type} (x:Option R):both x x=x:=by unfold both; rw[if_pos rfl]
structure PanV where
 T:TypeId
 t:Ty
 x:t.I
inductive RM (α:Type):Type 1 where
 |ret (a:α)
 |get (s:Nat) (k:SV→RM α)
 |put (s:Nat) (v:SV) (k:RM α)
 |kill (r:Nat) (p:List PE) (k:RM α)
 |chk (b:Bool) (k:RM α)
 |ite (b:Bool) (x y:RM α)
 |call {D E:Type} (f:{R:Type}→(D→Option R)→(E→Option R)→Option R) (k:D→RM α) (kp:E→RM α)
 |inl (f:FuncId) (d:Option Nat) (xs:List SV) (k:SV→RM α)
 |pan (p:PanV)
 |any (x y:RM α)
 |fail
def dn0 {R:Type}:Option R:=none
def dn1 {R:Type}:Option R:=dn0
def dn2 {R:Type}:Option R:=dn1
def dn3 {R:Type}:Option R:=dn2
def dn4 {R:Type}:Option R:=dn3
def dn5 {R:Type}:Option R:=dn4
def dn6 {R:Type}:Option R:=dn5
def dn7 {R:Type}:Option R:=dn6
def dn8 {R:Type}:Option R:=dn7
def dn9 {R:Type}:Option R:=dn8
def dn10 {R:Type}:Option R:=dn9
def dn11 {R:Type}:Option R:=dn10
def dn12 {R:Type}:Option R:=dn11
def dn13 {R:Type}:Option R:=dn12
def dn14 {R:Type}:Option R:=dn13
def dn15 {R:Type}:Option R:=dn14
def dn16 {R:Type}:Option R:=dn15
def dn17 {R:Type}:Option R:=dn16
def dn18 {R:Type}:Option R:=dn17
def dn19 {R:Type}:Option R:=dn18
def dn20 {R:Type}:Option R:=dn19
def dn21 {R:Type}:Option R:=dn20
def dn22 {R:Type}:Option R:=dn21
def dn23 {R:Type}:Option R:=dn22
def dn24 {R:Type}:Option R:=dn23
def dn25 {R:Type}:Option R:=dn24
def dn26 {R:Type}:Option R:=dn25
def dn27 {R:Type}:Option R:=dn26
def dn28 {R:Type}:Option R:=dn27
def dn29 {R:Type}:Option R:=dn28
def dn30 {R:Type}:Option R:=dn29
def dn31 {R:Type}:Option R:=dn30
def dn32 {R:Type}:Option R:=dn31
def dn33 {R:Type}:Option R:=dn32
def dn34 {R:Type}:Option R:=dn33
def dn35 {R:Type}:Option R:=dn34
def dn36 {R:Type}:Option R:=dn35
def dn37 {R:Type}:Option R:=dn36
def dn38 {R:Type}:Option R:=dn37
def dn39 {R:Type}:Option R:=dn38
def dn40 {R:Type}:Option R:=dn39
def dn41 {R:Type}:Option R:=dn40
def dn42 {R:Type}:Option R:=dn41
def dn43 {R:Type}:Option R:=dn42
def dn44 {R:Type}:Option R:=dn43
def dn45 {R:Type}:Option R:=dn44
def dn46 {R:Type}:Option R:=dn45
def dn47 {R:Type}:Option R:=dn46
def dn48 {R:Type}:Option R:=dn47
def dn49 {R:Type}:Option R:=dn48
def dn50 {R:Type}:Option R:=dn49
def dn51 {R:Type}:Option R:=dn50
def dn52 {R:Type}:Option R:=dn51
def dn53 {R:Type}:Option R:=dn52
def dn54 {R:Type}:Option R:=dn53
def dn55 {R:Type}:Option R:=dn54
def dn56 {R:Type}:Option R:=dn55
def dn57 {R:Type}:Option R:=dn56
def dn58 {R:Type}:Option R:=dn57
def dn59 {R:Type}:Option R:=dn58
def dn60 {R:Type}:Option R:=dn59
def dn61 {R:Type}:Option R:=dn60
def dn62 {R:Type}:Option R:=dn61
def dn63 {R:Type}:Option R:=dn62
def dn64 {R:Type}:Option R:=dn63
def dn65 {R:Type}:Option R:=dn64
def dn66 {R:Type}:Option R:=dn65
def dn67 {R:Type}:Option R:=dn66
def dn68 {R:Type}:Option R:=dn67
def dn69 {R:Type}:Option R:=dn68
def dn70 {R:Type}:Option R:=dn69
def dn71 {R:Type}:Option R:=dn70
def dn72 {R:Type}:Option R:=dn71
def dn73 {R:Type}:Option R:=dn72
def dn74 {R:Type}:Option R:=dn73
def dn75 {R:Type}:Option R:=dn74
def dn76 {R:Type}:Option R:=dn75
def dn77 {R:Type}:Option R:=dn76
def dn78 {R:Type}:Option R:=dn77
def dn79 {R:Type}:Option R:=dn78
def dn80 {R:Type}:Option R:=dn79
def dn81 {R:Type}:Option R:=dn80
def dn82 {R:Type}:Option R:=dn81
def dn83 {R:Type}:Option R:=dn82
def dn84 {R:Type}:Option R:=dn83
def dn85 {R:Type}:Option R:=dn84
def dn86 {R:Type}:Option R:=dn85
def dn87 {R:Type}:Option R:=dn86
def dn88 {R:Type}:Option R:=dn87
def dn89 {R:Type}:Option R:=dn88
def dn90 {R:Type}:Option R:=dn89
def dn91 {R:Type}:Option R:=dn90
def dn92 {R:Type}:Option R:=dn91
def dn93 {R:Type}:Option R:=dn92
def dn94 {R:Type}:Option R:=dn93
def dn95 {R:Type}:Option R:=dn94
def dn96 {R:Type}:Option R:=dn95
def dn97 {R:Type}:Option R:=dn96
def dn98 {R:Type}:Option R:=dn97
def dn99 {R:Type}:Option R:=dn98
def dn100 {R:Type}:Option R:=dn99
def dn101 {R:Type}:Option R:=dn100
def dn102 {R:Type}:Option R:=dn101
def dn103 {R:Type}:Option R:=dn102
def dn104 {R:Type}:Option R:=dn103
def dn105 {R:Type}:Option R:=dn104
def dn106 {R:Type}:Option R:=dn105
def dn107 {R:Type}:Option R:=dn106
def dn108 {R:Type}:Option R:=dn107
def dn109 {R:Type}:Option R:=dn108
def dn110 {R:Type}:Option R:=dn109
def dn111 {R:Type}:Option R:=dn110
def dn112 {R:Type}:Option R:=dn111
def dn113 {R:Type}:Option R:=dn112
def dn114 {R:Type}:Option R:=dn113
def dn115 {R:Type}:Option R:=dn114
def dn116 {R:Type}:Option R:=dn115
def dn117 {R:Type}:Option R:=dn116
def dn118 {R:Type}:Option R:=dn117
def dn119 {R:Type}:Option R:=dn118
def dn120 {R:Type}:Option R:=dn119
def dn121 {R:Type}:Option R:=dn120
def dn122 {R:Type}:Option R:=dn121
def dn123 {R:Type}:Option R:=dn122
def dn124 {R:Type}:Option R:=dn123
def dn125 {R:Type}:Option R:=dn124
def dn126 {R:Type}:Option R:=dn125
def dn127 {R:Type}:Option R:=dn126
def dn128 {R:Type}:Option R:=dn127
def dn129 {R:Type}:Option R:=dn128
def dn130 {R:Type}:Option R:=dn129
def dn131 {R:Type}:Option R:=dn130
def dn132 {R:Type}:Option R:=dn131
def dn133 {R:Type}:Option R:=dn132
def dn134 {R:Type}:Option R:=dn133
def dn135 {R:Type}:Option R:=dn134
def dn136 {R:Type}:Option R:=dn135
def dn137 {R:Type}:Option R:=dn136
def dn138 {R:Type}:Option R:=dn137
def dn139 {R:Type}:Option R:=dn138
def dn140 {R:Type}:Option R:=dn139
def dn141 {R:Type}:Option R:=dn140
def dn142 {R:Type}:Option R:=dn141
def dn143 {R:Type}:Option R:=dn142
def dn144 {R:Type}:Option R:=dn143
def dn145 {R:Type}:Option R:=dn144
def dn146 {R:Type}:Option R:=dn145
def dn147 {R:Type}:Option R:=dn146
def dn148 {R:Type}:Option R:=dn147
def dn149 {R:Type}:Option R:=dn148
def dn150 {R:Type}:Option R:=dn149
def dn151 {R:Type}:Option R:=dn150
def dn152 {R:Type}:Option R:=dn151
def dn153 {R:Type}:Option R:=dn152
def dn154 {R:Type}:Option R:=dn153
def dn155 {R:Type}:Option R:=dn154
def dn156 {R:Type}:Option R:=dn155
def dn157 {R:Type}:Option R:=dn156
def dn158 {R:Type}:Option R:=dn157
def dn159 {R:Type}:Option R:=dn158
def dn160 {R:Type}:Option R:=dn159
def dn161 {R:Type}:Option R:=dn160
def dn162 {R:Type}:Option R:=dn161
def dn163 {R:Type}:Option R:=dn162
def dn164 {R:Type}:Option R:=dn163
def dn165 {R:Type}:Option R:=dn164
def dn166 {R:Type}:Option R:=dn165
def dn167 {R:Type}:Option R:=dn166
def dn168 {R:Type}:Option R:=dn167
def dn169 {R:Type}:Option R:=dn168
def dn170 {R:Type}:Option R:=dn169
def dn171 {R:Type}:Option R:=dn170
def dn172 {R:Type}:Option R:=dn171
def dn173 {R:Type}:Option R:=dn172
def dn174 {R:Type}:Option R:=dn173
def dn175 {R:Type}:Option R:=dn174
def dn176 {R:Type}:Option R:=dn175
def dn177 {R:Type}:Option R:=dn176
def dn178 {R:Type}:Option R:=dn177
def dn179 {R:Type}:Option R:=dn178
def dn180 {R:Type}:Option R:=dn179
def dn181 {R:Type}:Option R:=dn180
def dn182 {R:Type}:Option R:=dn181
def dn183 {R:Type}:Option R:=dn182
def dn184 {R:Type}:Option R:=dn183
def dn185 {R:Type}:Option R:=dn184
def dn186 {R:Type}:Option R:=dn185
def dn187 {R:Type}:Option R:=dn186
def dn188 {R:Type}:Option R:=dn187
def dn189 {R:Type}:Option R:=dn188
def dn190 {R:Type}:Option R:=dn189
def dn191 {R:Type}:Option R:=dn190
def dn192 {R:Type}:Option R:=dn191
def dn193 {R:Type}:Option R:=dn192
def dn194 {R:Type}:Option R:=dn193
def dn195 {R:Type}:Option R:=dn194
def dn196 {R:Type}:Option R:=dn195
def dn197 {R:Type}:Option R:=dn196
def dn198 {R:Type}:Option R:=dn197
def dn199 {R:Type}:Option R:=dn198
def dn200 {R:Type}:Option R:=dn199
theorem dn_eq {R:Type}:(dn200:Option R)=none:=rfl
attribute [simp] dn_eq
structure Cx (R:Type) where
 kp:PanV→St→Option R
 inl:FuncId→Option Nat→St→List SV→(SV→St→Option R)→Option R
noncomputable def RM.run {α R:Type} (C:Cx R):RM α→St→(α→St→Option R)→Option R
 | .ret a,st,K=>K a st
 | .get s k,st,K=>(k (st s)).run C st K
 | .put s v k,st,K=>k.run C (st.put s v) K
 | .kill r p k,st,K=>k.run C (st.kill r p) K
 | .chk b k,st,K=>cond b (k.run C st K) none
 | .ite b x y,st,K=>cond b (x.run C st K) (y.run C st K)
 | .call f k kp,st,K=>f (fun x=>(k x).run C st K) (fun y=>(kp y).run C st K)
 | .inl f d xs k,st,K=>C.inl f d st xs fun v st=>(k v).run C st K
 | .pan p,st,_=>C.kp p st
 | .any x y,st,K=>both (x.run C st K) (y.run C st K)
 | .fail,_,_=>dn200
inductive PK where
 |val (t:Ty) (m:Md)
 |ref (t:Ty) (m m':Md)
 |fn (f:FuncId)
def PK.D:PK→Type
 | .val t _=>t.I
 | .ref t _ _=>t.I
 | .fn _=>Unit
def DI:List PK→Type
 |[]=>Unit
 |k::ks=>k.D×DI ks
def DR:List (Ty×Md)→Type
 |[]=>Unit
 |k::ks=>k.1.I×DR ks
def DB:List PK→Type
 |[]=>Unit
 | .ref t _ _::ks=>t.I×DB ks
 | .val _ _::ks=>DB ks
 | .fn _::ks=>DB ks
def PI:Option (TypeId×Ty)→Type
 |none=>Empty
 |some q=>q.2.I
def PI.pan:(o:Option (TypeId×Ty))→PI o→PanV
 |none,y=>nomatch y
 |some q,y=>⟨q.1,q.2,y⟩
structure CSpec where
 ins:List PK
 outs:List (Ty×Md)
 pan:Option (TypeId×Ty):=none
 fn:{R:Type}→DI ins→(DR outs→DB ins→Option R)→(PI pan→DB ins→Option R)→Option R
def clsd:Ty→Md→Bool
 | .int _,_ | .bool,_ | .str,_ | .unit,_ | .err,_=>true
 | .sl _ t,.o m=>clsd t m
 | .ptr _ t,.o m=>clsd t m
 | .pair a b,m=>clsd a m.fst&&clsd b m.snd
 | .arr _ t,m=>clsd t m.el
 |_,_=>false
def CSpec.clsd (c:CSpec):Bool:=c.outs.all (fun k=>Trm.clsd k.1 k.2)&&c.ins.all (fun
 | .ref t _ m'=>Trm.clsd t m'
 |_=>true)
structure Env where
 ty:TypeId→Option Ty
 gam:FuncId→List FuncId→Option CSpec
 n:Nat
 fz:Nat→Bool:=fun _=>false
 lv:Nat→Option (List Nat):=fun _=>none
 b:Nat:=0
 fs:Nat→Bool:=fun _=>false
 sb:Nat→Bool:=fun _=>false
 al:List Nat:=[]
 il:FuncId→Bool:=fun _=>false
 js:Nat→Bool:=fun _=>false
 df:Bool:=false
 rs:List Nat:=[]
 eq:TypeId→Bool:=fun _=>false
 om:TypeId→Md:=fun _ => .s
 fu:Nat→Bool:=fun _=>false
def St.at (st:St):Option (List Nat)→St
 |some l=>st.only l
 |none=>st
def Env.is (env:Env) (T:TypeId) (t:Ty):Bool:=match env.ty T with
 |some t'=>t'.eqb t
 |none=>false
end Go.Trm
namespace Go.Trm
section
variable {α:Type}
def inK (k:IntKind) (n:Int):Bool:=decide (k.min≤n)&&decide (n≤k.max)
def most:Nat:=4294967296
def cst (env:Env) (T:TypeId):Value→SV
 | .int k n=>match inK k n with
  |true => .v (.int k) .s n
  |false => .un
 | .bool b => .v .bool .s b
 | .nilIface => .v .err .s false
 | .string s=>match Nat.ble s.data.toList.length most with
  |true => .v .str .s s.data.toList
  |false => .un
 | .slice none 0 0=>match env.ty T with
  |some (.sl e t) => .v (.sl e t) (.o (env.om e)) []
  |_ => .nil
 | .pointer none=>match env.ty T with
  |some (.ptr T t) => .v (.ptr T t) .s none
  |_ => .un
 |_ => .un
def rdO (env:Env) (T:TypeId) (x:Operand) (k:SV→RM α):RM α :=
 match x with
 | .tmp t=>match Nat.blt t env.n with
  |true => .get (env.b+t) k
  |false => .fail
 | .const c=>k (cst env T c)
 | .func f=>k (.fn f [] [])
 | .global _ => .fail
def self (env:Env):Operand→Option Nat
 | .tmp t=>some (env.b+t)
 |_=>none
abbrev Src:=Option (Nat×List PE)
def zlRa (v:SV) (me:Option Nat) (k:(t:Ty)→Md→t.I→Src→RM α):RM α :=
 match v with
 | .v t .s x=>k t .s x none
 | .v _ .j _ => .fail
 | .v t m x=>k t m x (match me with|some s=>some (s,[])|none=>none)
 | .lz r p => .get r fun w=>match w with
  | .v t m x=>match getP t m x p with
   |some ⟨u,.s,y⟩=>k u .s y none
   |some ⟨_,.j,_⟩ => .fail
   |some ⟨u,mu,y⟩=>k u mu y (some (r,p))
   |none => .fail
  |_ => .fail
 |_ => .fail
def runeB (n:Int):List UInt8:=(Utf8.encode n).data.toList
def rng {β:Type} (l:List β) (lo hi:Int):List β:=(l.take hi.toNat).drop lo.toNat
def deref (v:SV) (me:Option Nat) (k:(t:Ty)→Md→t.I→Src→RM α):RM α :=
 match v with
 | .sub r p lo hi => .get r fun w=>match w with
  | .v t m x=>match getP t m x p with
   |some ⟨.sl e u,mu,y⟩=>match mu with
    | .s=>k (.sl e u) .s (rng (y:List u.I) lo hi) none
    | .j => .fail
    |mu=>k (.sl e u) mu (rng (y:List u.I) lo hi) (some (r,p))
   |_ => .fail
  |_ => .fail
 |v=>zlRa v me k
def rdV (env:Env) (T:TypeId) (x:Operand) (k:(t:Ty)→Md→t.I→Src→RM α):RM α :=
 rdO env T x fun v=>deref v (self env x) k
def rdX (env:Env) (T:TypeId) (x:Operand) (k:(t:Ty)→Md→t.I→Src→RM α):RM α :=
 rdO env T x fun v=>zlRa v (self env x) k
def Md.noJ:Md→Bool
 | .s=>true
 | .j=>false
 | .o m=>m.noJ
 | .p a b=>a.noJ&&b.noJ
def Md.le:Md→Md→Bool
 | .s,m=>m.noJ
 | .o a,.o b=>a.le b
 | .p a b,.p c d=>a.le c&&b.le d
 |_,_=>false
def take (src:Src) (k:RM α):RM α :=
 match src with
 |none=>k
 |some (r,p) => .get r fun w=>match w with
  | .v t m x=>match getP t m x p with
   |some ⟨u,_,y⟩=>match setP t m x p u .j y with
    |some (m',x') => .kill r p (.put r (.v t m' x') k)
    |none => .fail
   |none => .fail
  |_ => .fail
def zDra (src:Src) (k:RM α):RM α :=
 match src with
 |none=>k
 |some (r,p) => .get r fun w=>match w with
  | .v t m x=>match getP t m x p with
   |some ⟨u,mo,y⟩=>match mo.noJ,setP t m x p u .s y with
    |true,some (m',x') => .kill r p (.put r (.v t m' x') k)
    |_,_ => .fail
   |none => .fail
  |_ => .fail
def setS (d:Nat) (v:SV) (k:RM α):RM α :=
 match v with
 | .v _ _ _ => .kill d [] (.put d v k)
 |v => .put d v k
def frz (env:Env) (d:Nat) (v:SV):SV :=
 match v with
 | .v t m x=>match env.fz d&&m.noJ with
  |true => .v t .s x
  |false => .v t m x
 |v=>v
def fzd (env:Env) (o:Oper):Bool:=match o.dst with
 |some d=>env.fz d
 |none=>false
def fin (env:Env) (o:Oper) (v:SV):RM Unit :=
 match o.dst with
 |some d=>match Nat.blt d env.n with
  |true=>setS (env.b+d) (frz env d v) (.ret ())
  |false => .fail
 |none => .ret ()
def rdInt (env:Env) (T:TypeId) (x:Operand) (k:IntKind→Int→RM α):RM α :=
 rdV env T x fun t _ y _=>match t,y with
  | .int kd,y=>k kd y
  |_,_ => .fail
def rdT (env:Env) (T:TypeId) (x:Operand) (k:(t:Ty)→Md→t.I→RM α):RM α :=
 rdV env T x fun t m y src=>take src (k t m y)
def memP (r:Nat) (p:List PE) (k:RM α):RM α :=
 .get r fun w=>match w with
  | .v t _ _=>match rootB t p with
   |true=>k
   |false => .fail
  |_ => .fail
def rdP (env:Env) (T:TypeId) (x:Operand) (kp:Nat→List PE→RM α) (kd:(t:Ty)→t.I→RM α):RM α :=
 rdO env T x fun v=>match v with
  | .al r p=>kp r p
  | .v (.ptr _ t) .s y=>match (y:Option t.I) with
   |some c=>kd t c
   |none => .fail
  | .v (.ptr _ _) (.o _) (some _)=>match self env x with
   |some s=>kp s [.der]
   |none => .fail
  | .lz r p => .get r fun w=>match w with
   | .v t m y=>match getP t m y p with
    |some ⟨.ptr _ _,.o _,some _⟩=>memP r (p++[.der]) (kp r (p++[.der]))
    |_ => .fail
   |_ => .fail
  |_ => .fail
def atP (r:Nat) (p:List PE) (k:(t:Ty)→Md→t.I→RM α):RM α :=
 .get r fun w=>match w with
  | .v t m x=>match getP t m x p with
   |some ⟨u,mu,y⟩=>k u mu y
   |none => .fail
  |_ => .fail
def binI (op:BinOp) (k:IntKind) (x y:Int):Option ((t:Ty)×t.I) :=
 match op with
 | .add=>some ⟨.int k,k.wrap (x+y)⟩
 | .sub=>some ⟨.int k,k.wrap (x-y)⟩
 | .mul=>some ⟨.int k,k.wrap (x*y)⟩
 | .quo=>some ⟨.int k,k.wrap (x.tdiv y)⟩
 | .rem=>some ⟨.int k,x.tmod y⟩
 | .and=>some ⟨.int k,k.wrap (BitVec.ofInt k.bits x &&& BitVec.ofInt k.bits y).toNat⟩
 | .or=>some ⟨.int k,k.wrap (BitVec.ofInt k.bits x ||| BitVec.ofInt k.bits y).toNat⟩
 | .xor=>some ⟨.int k,k.wrap (BitVec.ofInt k.bits x ^^^ BitVec.ofInt k.bits y).toNat⟩
 | .andNot=>some ⟨.int k,k.wrap (BitVec.ofInt k.bits x &&& ~~~(BitVec.ofInt k.bits y)).toNat⟩
 | .eql=>some ⟨.bool,x==y⟩
 | .neq=>some ⟨.bool,x != y⟩
 | .lss=>some ⟨.bool,decide (x<y)⟩
 | .leq=>some ⟨.bool,decide (x≤y)⟩
 | .gtr=>some ⟨.bool,decide (x>y)⟩
 | .geq=>some ⟨.bool,decide (x≥y)⟩
 |_=>none
def chkI (op:BinOp) (y:Int) (k:RM α):RM α :=
 match op with
 | .quo | .rem => .chk (y != 0) k
 |_=>k
def eqI:(t:Ty)→t.I→t.I→Option Bool
 | .int _,x,y=>some (@BEq.beq Int _ x y)
 | .bool,x,y=>some (@BEq.beq Bool _ x y)
 | .str,x,y=>some (@BEq.beq (List UInt8) _ x y)
 | .unit,_,_=>some true
 | .err,_,_=>none
 | .pair a b,x,y=>match eqI a x.1 y.1,eqI b x.2 y.2 with
  |some p,some q=>some (p&&q)
  |_,_=>none
 | .sl _ _,_,_=>none
 | .ptr _ _,_,_=>none
 | .arr _ _,_,_=>none
def Ty.strc:Ty→Bool
 | .unit | .pair _ _=>true
 |_=>false
def zKKa (env:Env) (T:TypeId) (t:Ty) (n:Nat):List (Nat×Operand)→Option Md→List t.I→(Option Md→List t.I→RM α)→RM α
 |[],m,z,k=>k m z
 |(i,x)::ps,m,z,k=>rdT env T x fun u mu y=>match castI u t y,Nat.blt i n with
  |some y,true=>match m with
   |none=>zKKa env T t n ps (some mu) (z.set i y) k
   |some m=>match mu.eqb m with
    |true=>zKKa env T t n ps (some m) (z.set i y) k
    |false => .fail
  |_,_ => .fail
def zwPa (env:Env) (Ts:Nat→TypeId):List (Nat×Operand)→(t:Ty)→(m:Md)→t.I→(Md→t.I→RM α)→RM α
 |[],_,m,z,k=>k m z
 |(i,x)::ps,t,m,z,k=>rdT env (Ts i) x fun u mu y=>match setP t m z [.fld i] u mu y with
  |some (m',z')=>zwPa env Ts ps t m' z' k
  |none => .fail
def bound (env:Env) (x:Option Operand) (d:Int) (k:Int→RM α):RM α :=
 match x with
 |none=>k d
 |some x=>rdInt env 0 x fun _ y=>k y
def zdUa (env:Env):List Operand→(List (Nat×List PE)→RM α)→RM α
 |[],k=>k []
 |x::xs,k=>rdO env 0 x fun v=>match v with
  | .bx r _=>zdUa env xs fun l=>k ((r,[])::l)
  |_=>rdP env 0 x (fun r p=>match p with
   |[] => .fail
   |e::p=>zdUa env xs fun l=>k ((r,e::p)::l)) fun _ _ => .fail
def minI (x y:Int):Int:=if y<x then y else x
def maxI (x y:Int):Int:=if y>x then y else x
def foldI (env:Env) (f:Int→Int→Int) (kd:IntKind):List Operand→Int→(Int→RM α)→RM α
 |[],a,k=>k a
 |x::xs,a,k=>rdInt env 0 x fun kd' y=>match kEq kd kd' with
   |true=>foldI env f kd xs (f a y) k
   |false => .fail
def u8s (l:List Int):List UInt8:=l.map fun n=>UInt8.ofNat n.toNat
def nums (l:List UInt8):List Int:=l.map fun b=>(b.toNat:Int)
def bt (l:List UInt8) (i:Int):Int:=((l.getD i.toNat 0).toNat:Int)
def zz0a (env:Env) (T:TypeId) (x:Operand) (e:TypeId) (t:Ty) (m:Md) (k:List t.I→RM α):RM α :=
 rdV env T x fun u mu y src=>match u,mu,y with
  | .sl e' u,mu,y=>match env.is T (.sl e' u),castI (.sl e' u) (.sl e t) y with
   |true,some (y:List t.I)=>match m with
    | .s=>match mu with
     | .s=>k y
     | .o .s=>k y
     |mu=>match t.flat&&mu.noJ with
      |true=>k y
      |false=>match mu.noJ,src with
       |true,some q=>zDra (some q) (k y)
       |_,_ => .fail
    |m=>match mu with
     | .o mu=>match m.le mu with
      |true=>take src (k y)
      |false => .fail
     |_ => .fail
   |_,_ => .fail
  | .str,_,y=>match env.is T .str,castI (.sl e (.int .u8)) (.sl e t) (nums y) with
   |true,some (y:List t.I)=>k y
   |_,_ => .fail
  |_,_,_ => .fail
def refOf (env:Env) (x:Operand) (k:Nat→TypeId→RM α):RM α :=
 rdO env 0 x fun v=>match v with
  | .al r p=>match p with
   |[.der] => .get r fun w=>match w with
    | .v (.ptr T _) _ _=>k r T
    |_ => .fail
   |_ => .fail
  | .v (.ptr T _) (.o _) _=>match self env x with
   |some s=>k s T
   |none => .fail
  | .lz r p=>match p with
   |[] => .get r fun w=>match w with
    | .v (.ptr T _) (.o _) _=>k r T
    |_ => .fail
   |_ => .fail
  |_ => .fail
def zvPa (env:Env):List PK→List Operand→(List (Option (Nat×TypeId))→RM α)→RM α
 | .ref _ _ _::ks,x::xs,k=>refOf env x fun r T=>zvPa env ks xs fun rs=>k (some (r,T)::rs)
 | .val _ _::ks,_::xs,k=>zvPa env ks xs fun rs=>k (none::rs)
 | .fn _::ks,_::xs,k=>zvPa env ks xs fun rs=>k (none::rs)
 |[],_,k=>k []
 |_,_,_ => .fail
def backs:(ks:List PK)→DB ks→List (Option (Nat×TypeId))→RM α→RM α
 | .ref t _ m'::ks,b,some (r,T)::rs,k=>setS r (.v (.ptr T t) (.o m') (some b.1)) (backs ks b.2 rs k)
 | .val _ _::ks,b,_::rs,k=>backs ks b rs k
 | .fn _::ks,b,_::rs,k=>backs ks b rs k
 |[],_,_,k=>k
 |_,_,_,_ => .fail
def zuxa (env:Env) (cl:Bool):(ks:List PK)→List Operand→List TypeId→(DI ks→List Nat→List Nat→RM α)→RM α
 |[],[],_,k=>k () [] []
 | .val t m::ks,x::xs,Ts,k=>rdV env (Ts.headD 0) x fun u mu y src=>match castI u t y with
  |none => .fail
  |some y=>match m with
   | .s=>match mu with
    | .s=>zuxa env cl ks xs Ts.tail fun d ms bs=>k (y,d) ms bs
    |_=>match mu.noJ with
     |true=>match cl,src with
      |true,some (r,_)=>zuxa env cl ks xs Ts.tail fun d ms bs=>match ms.all (fun q=>!(Nat.beq q r)) with
       |true=>k (y,d) ms (r::bs)
       |false => .fail
      |_,src=>zDra src (zuxa env cl ks xs Ts.tail fun d ms bs=>k (y,d) ms bs)
     |false => .fail
   |m=>match m.le mu with
    |true=>take src (zuxa env cl ks xs Ts.tail fun d ms bs=>match src with
     |none=>k (y,d) ms bs
     |some (r,_)=>k (y,d) (r::ms) bs)
    |false => .fail
 | .ref t m _::ks,x::xs,Ts,k=>refOf env x fun r _ => .get r fun w=>match w with
  | .v (.ptr _ u) mu y=>match (y:Option u.I) with
   |some c=>match castI u t c,(Md.o m).le mu with
    |some c',true=>take (some (r,[])) (zuxa env cl ks xs Ts.tail fun d ms bs=>k (c',d) (r::ms) bs)
    |_,_ => .fail
   |none => .fail
  |_ => .fail
 | .fn f::ks,x::xs,Ts,k=>rdO env (Ts.headD 0) x fun v=>match v with
  | .fn g [] []=>match Nat.beq f g with
   |true=>zuxa env cl ks xs Ts.tail fun d ms bs=>k ((),d) ms bs
   |false => .fail
  |_ => .fail
 |_,_,_,_ => .fail
def setAt (r:Nat) (p:List PE) (u:Ty) (mu:Md) (y:u.I) (k:RM α):RM α :=
 .get r fun w=>match w with
  | .v t m x=>match getP t m x p with
   |some ⟨u',_,_⟩=>match castI u u' y with
    |some y=>match setP t m x p u' mu y with
     |some (m',x') => .kill r p (.put r (.v t m' x') k)
     |none => .fail
    |none => .fail
   |none => .fail
  |_ => .fail
def resV:(ks:List (Ty×Md))→DR ks→List SV
 |[],_=>[]
 |k::ks,d => .v k.1 k.2 d.1::resV ks d.2
def resS (ks:List (Ty×Md)) (d:DR ks):SV :=
 match resV ks d with
 |[x]=>x
 |l => .tup l
def fnsOf (env:Env):List Operand→(List FuncId→RM α)→RM α
 |[],k=>k []
 |x::xs,k=>rdO env 0 x fun v=>match v with
  | .fn g _ _=>fnsOf env xs fun l=>k (g::l)
  |_=>fnsOf env xs k
def fldP:Ty→List PE→Option Ty
 |t,[]=>some t
 | .pair a _,.fld 0::p=>fldP a p
 | .pair _ b,.fld (n+1)::p=>fldP b (.fld n::p)
 |_,_=>none
def zVTa (rs:List (Option (Nat×TypeId))):List Nat→(List (Nat×Nat×List PE×Ty)→RM α)→RM α
 |[],k=>k []
 |s::l,k => .get s fun v=>match v with
  | .al r p=>match rs.any (fun q=>match q with|some (r',_)=>Nat.beq r r'|none=>false)&&shal p with
   |true => .get r fun w=>match w with
    | .v t _ _=>zVTa rs l fun a=>k ((s,r,p,t)::a)
    |_=>zVTa rs l k
   |false=>zVTa rs l k
  |_=>zVTa rs l k
def zzTa:List (Nat×Nat×List PE×Ty)→RM α→RM α
 |[],k=>k
 |(s,r,p,t)::l,k => .get r fun w=>match w with
  | .v (.ptr T u) (.o _) (some _)=>match t,p with
   | .ptr T' u',.der::q=>match Nat.beq T T'&&u.eqb u'&&Nat.blt s gh0&&!(Nat.beq s r),fldP u q with
    |true,some _ => .put s (.al r (.der::q)) (zzTa l k)
    |_,_=>zzTa l k
   |_,_=>zzTa l k
  |_=>zzTa l k
def enter (env:Env) (f:FuncId) (xs:List Operand) (Ts:List TypeId) (k:SV→RM α):RM α :=
 fnsOf env xs fun gs=>match env.gam f gs with
 |none => .fail
 |some c=>zvPa env c.ins xs fun rs=>zVTa rs env.al fun al=>zuxa env c.clsd c.ins xs Ts fun d _ _ =>
   .call (D:=DR c.outs×DB c.ins) (E:=PI c.pan×DB c.ins) (fun K Kp=>c.fn d (fun a b=>K (a,b)) (fun p b=>Kp (p,b)))
    (fun r=>backs c.ins r.2 rs (zzTa al (k (resS c.outs r.1)))) (fun r=>backs c.ins r.2 rs (zzTa al (.pan (PI.pan c.pan r.1))))
def argSV (env:Env) (x:Operand) (T:TypeId) (k:SV→RM α):RM α :=
 rdO env T x fun v=>match v with
  | .v t .s y=>k (.v t .s y)
  | .v _ .j _ => .fail
  | .v t m y=>match self env x with
   |some s=>k (.lz s [])
   |none=>k (.v t m y)
  | .tup _ => .fail
  | .un => .fail
  | .bx _ _ => .fail
  |v=>k v
def lzAl (v:SV) (k:SV→RM α):RM α:=match v with
 | .lz r [] => .get r fun w=>match w with
  | .v (.ptr _ _) (.o _) (some _)=>k (.al r [.der])
  |_=>k (.lz r [])
 |v=>k v
def zYWa (env:Env):List Operand→List TypeId→(List SV→RM α)→RM α
 |[],_,k=>k []
 |x::xs,Ts,k=>argSV env x (Ts.headD 0) fun v=>lzAl v fun v=>zYWa env xs Ts.tail fun l=>k (v::l)
def alsOf (l:List (Nat×List PE)):List SV:=l.map fun q=>match q.2 with
 |[] => .bx q.1 []
 |p => .al q.1 p
def inB (i:Int) (n:Nat):Bool:=decide (0≤i)&&decide (i<n)
def inR (l h:Int) (n:Nat):Bool:=decide (0≤l)&&(decide (l≤h)&&decide (h≤n))
def hdr {α:Type} (src:Src) (t:Ty) (y:t.I) (k:RM α):RM α :=
 match src with
 |some (r,p)=>match p with
  |[]=>match t,y with
   | .sl e u,y=>setS r (.v (.sl e .unit) .s (List.map (fun _=>()) (y:List u.I))) k
   |_,_=>k
  |_=>k
 |none=>k
def hdrV {α:Type} (v:SV) (src:Src) (t:Ty) (y:t.I) (k:RM α):RM α :=
 match v with
 | .sub _ _ _ _=>k
 |_=>hdr src t y k
def evB (env:Env) (o:Oper) (b:Builtin) (xs:List Operand) (Ts:List TypeId):RM Unit :=
 match b,xs,Ts with
 | .len,[x],[T]=>rdV env T x fun t _ y _=>match env.is T t with
  |false=>match t,y with
   | .sl _ .unit,y=>match env.ty T with
    |some (.sl _ _)=>fin env o (.v (.int .i64) .s ((List.length y:Nat):Int))
    |_ => .fail
   |_,_ => .fail
  |true=>match t,y with
  | .sl _ _,y=>fin env o (.v (.int .i64) .s ((List.length y:Nat):Int))
  | .str,y=>fin env o (.v (.int .i64) .s ((List.length y:Nat):Int))
  | .arr n _,_=>match inK .i64 n with
   |true=>fin env o (.v (.int .i64) .s (n:Int))
   |false => .fail
  |_,_ => .fail
 | .min,x::xs,_=>rdInt env 0 x fun kd y=>foldI env minI kd xs y fun z=>fin env o (.v (.int kd) .s z)
 | .max,x::xs,_=>rdInt env 0 x fun kd y=>foldI env maxI kd xs y fun z=>fin env o (.v (.int kd) .s z)
 | .append,[x,z],[T,U]=>rdO env T x fun v=>deref v (self env x) fun t m y src=>take src<|hdrV v src t y<|match t,m,y with
  | .sl e t,.o m,(y:List t.I)=>match env.is T (.sl e t)&&m.noJ with
   |true=>zz0a env U z e t m fun (y':List t.I) =>
    .chk (decide (List.length y+List.length y'≤most)) (fin env o (.v (.sl e t) (.o m) (y++y')))
   |false => .fail
  |_,_,_ => .fail
 |_,_,_ => .fail
def shlI (k:IntKind) (a b:Int):Int:=k.wrap (a*2 ^ (min b.toNat k.bits))
def shrI (k:IntKind) (a b:Int):Int:=a.fdiv (2 ^ (min b.toNat k.bits))
def evI (env:Env) (o:Oper) (op:BinOp) (k k':IntKind) (a b:Int):RM Unit :=
 match op with
 | .shl => .chk (decide (0≤b)) (fin env o (.v (.int k) .s (shlI k a b)))
 | .shr => .chk (decide (0≤b)) (fin env o (.v (.int k) .s (shrI k a b)))
 |op=>match kEq k k',binI op k a b with
  |true,some ⟨t,z⟩=>chkI op b (fin env o (.v t .s z))
  |_,_ => .fail
def evS (env:Env) (o:Oper) (op:BinOp) (a b:List UInt8):RM Unit :=
 match op with
 | .add => .chk (decide (a.length+b.length≤most)) (fin env o (.v .str .s (a++b)))
 | .eql=>fin env o (.v .bool .s (a==b))
 | .neq=>fin env o (.v .bool .s (!(a==b)))
 |_ => .fail
def evL (env:Env) (o:Oper) (op:BinOp) (T:TypeId) (a b:Bool):RM Unit :=
 match env.is T .bool with
 |true=>match op with
  | .eql=>fin env o (.v .bool .s (a==b))
  | .neq=>fin env o (.v .bool .s (!(a==b)))
  |_ => .fail
 |false => .fail
def zSXa:Operand→Bool
 | .const (.slice none 0 0)=>true
 |_=>false
def zTXa:Operand→Bool
 | .const (.pointer none)=>true
 |_=>false
def zUXa:Operand→Bool
 | .const .nilIface=>true
 |_=>false
def isNil (x:Operand):Bool:=zSXa x || (zTXa x || zUXa x)
def evN (env:Env) (o:Oper) (op:BinOp) (T:TypeId) (y:Operand):(t:Ty)→t.I→RM Unit
 | .sl e u,a=>match env.is T (.sl e u)&&zSXa y with
  |true=>match op with
   | .eql => .ite (List.isEmpty (a:List u.I)) (.any (fin env o (.v .bool .s true)) (fin env o (.v .bool .s false))) (fin env o (.v .bool .s false))
   | .neq => .ite (List.isEmpty (a:List u.I)) (.any (fin env o (.v .bool .s false)) (fin env o (.v .bool .s true))) (fin env o (.v .bool .s true))
   |_ => .fail
  |false => .fail
 | .ptr e u,a=>match env.is T (.ptr e u)&&zTXa y with
  |true=>match op with
   | .eql=>fin env o (.v .bool .s (Option.isNone (a:Option u.I)))
   | .neq=>fin env o (.v .bool .s (!(Option.isNone (a:Option u.I))))
   |_ => .fail
  |false => .fail
 | .err,a=>match env.is T .err&&zUXa y with
  |true=>match op with
   | .eql=>fin env o (.v .bool .s (!a))
   | .neq=>fin env o (.v .bool .s a)
   |_ => .fail
  |false => .fail
 |_,_ => .fail
def negI (k:IntKind) (a:Int):Int:=k.wrap (0-a)
def notI (k:IntKind) (a:Int):Int:=k.wrap (BitVec.ofInt k.bits (if k.signed then -1 else k.max) ^^^ BitVec.ofInt k.bits a).toNat
def zgZa (env:Env) (o:Oper) (T:TypeId) (i:Int) (r:Nat) (p:List PE):RM Unit :=
 atP r p fun t m _=>match t with
  | .arr n u=>match env.is T (.arr n u)&&!m.isJ with
   |true => .chk (inB i n) (fin env o (.al r (p++[.idx i])))
   |false => .fail
  |_ => .fail
def idxA (env:Env) (o:Oper) (T:TypeId) (i:Int) (t:Ty) (m:Md) (y:t.I) (src:Src):RM Unit :=
 match t,m,y with
 | .sl e t,.s,y=>match env.is T (.sl e t)&&!(Nat.beq t.size 0) with
  |true => .chk (inB i (List.length y)) (fin env o (.v (.ptr e t) .s (some (List.getD y i.toNat t.dflt))))
  |false => .fail
 | .sl e t,.o _,y=>match env.is T (.sl e t),src with
  |true,some (r,p) => .chk (inB i (List.length y)) (memP r (p++[.idx i]) (fin env o (.al r (p++[.idx i]))))
  |_,_ => .fail
 |_,_,_ => .fail
def evQ (env:Env) (o:Oper) (op:BinOp) (T:TypeId) (t u:Ty) (a:t.I) (b:u.I):RM Unit :=
 match t.strc&&(env.is T t&&env.eq T),castI u t b with
 |true,some b=>match eqI t a b with
  |some z=>match op with
   | .eql=>fin env o (.v .bool .s z)
   | .neq=>fin env o (.v .bool .s (!z))
   |_ => .fail
  |none => .fail
 |_,_ => .fail
def cutS (env:Env) (o:Oper) (e:TypeId) (t:Ty) (y:List t.I) (l h:Int) (src:Src):RM Unit :=
 match o.dst with
 |some d=>match env.sb d,src with
  |true,some (r,p)=>fin env o (.sub r p l h)
  |_,src=>zDra src (fin env o (.v (.sl e t) .s (rng y l h)))
 |none=>zDra src (fin env o (.v (.sl e t) .s (rng y l h)))
def zI2a:List PE→Bool
 |[]=>false
 | .idx _::_=>true
 |_::p=>zI2a p
def meltP (r:Nat) (p:List PE) (m:Md) (k:Md→RM α):RM α :=
 match zI2a p with
 |false=>k m
 |true => .get r fun w=>match w with
  | .v t0 m0 x0=>match getP t0 m0 x0 p with
   |some ⟨_,mu,_⟩=>match mu.le m with
    |true=>k mu
    |false=>k m
   |none=>k m
  |_=>k m
def isPtr (env:Env) (T:TypeId):Bool:=match env.ty T with
 |some (.ptr _ _)=>true
 |_=>false
def ownR (r:Nat) (k:RM α):RM α := .get r fun w=>match w with
 | .v (.ptr _ _) (.o _) (some _)=>k
 |_ => .fail
def boxAl (env:Env) (o:Oper) (T:TypeId) (r:Nat):RM Unit:=match Nat.ble gh0 r&&isPtr env T with
 |true=>ownR r (fin env o (.bx r []))
 |false => .fail
def zS0a (env:Env) (o:Oper) (T:TypeId) (r:Nat):RM Unit:=match isPtr env T with
 |true=>ownR r (fin env o (.al r [.der]))
 |false => .fail
def evOp (env:Env) (o:Oper):RM Unit :=
 match o.op with
 | .move x=>rdO env o.type x fun v=>match v with
  | .v _ .s _=>fin env o v
  | .v _ .j _ => .fail
  | .v t _ y=>match self env x with
   |some s=>match fzd env o with
    |true=>zDra (some (s,[])) (fin env o (.v t .s y))
    |false=>fin env o (.lz s [])
   |none=>fin env o v
  | .tup l=>match self env x with
   |some s => .put s .un (fin env o (.tup l))
   |none => .fail
  | .un => .fail
  | .bx _ _ => .fail
  |v=>fin env o v
 | .assign x=>rdO env o.type x fun v=>match v with
  | .v _ .s _=>fin env o v
  | .v _ _ _=>rdT env o.type x fun t m y=>fin env o (.v t m y)
  | .lz _ _=>rdT env o.type x fun t m y=>fin env o (.v t m y)
  | .sub _ _ _ _=>rdT env o.type x fun t m y=>fin env o (.v t m y)
  | .tup _ => .fail
  | .un => .fail
  | .bx _ _ => .fail
  |v=>fin env o v
 | .pick c a b=>rdV env 0 c fun tc _ c _=>match tc,c with
  | .bool,c => .ite c (rdV env o.type a fun t m x _=>match m with
    | .s=>fin env o (.v t .s x)
    |_ => .fail) (rdV env o.type b fun t m x _=>match m with
    | .s=>fin env o (.v t .s x)
    |_ => .fail)
  |_,_ => .fail
 | .alloc T=>match env.ty T with
  |some t=>fin env o (.v (.ptr T t) (.o (t.ownE env.om)) (some t.dflt))
  |none => .fail
 | .box T x=>rdO env 0 x fun v=>match v with
  | .al r [.der]=>boxAl env o T r
  |_=>rdT env T x fun t m y=>match env.is T t&&m.noJ with
   |true=>fin env o (.v (.ptr T t) (.o m) (some y))
   |false => .fail
 | .build T ps=>match env.ty T with
  |some (.arr n t)=>zKKa env T t n ps.toList (some .s) (List.replicate n t.dflt) fun _ z=>fin env o (.v (.arr n t) .s z)
  |some t=>match t.strc with
   |true=>zwPa env (fun _=>0) ps.toList t (t.ownE env.om) t.dflt fun m z=>fin env o (.v t m z)
   |false => .fail
  |none => .fail
 | .buildSlice T n ps=>match env.ty T with
  |some (.sl e t)=>match Nat.ble (n*t.size) 16777216&&Nat.ble n 16777216 with
   |true=>zKKa env e t n ps.toList none (List.replicate n t.dflt) fun m z=>match m with
    |none=>fin env o (.v (.sl e t) (.o .s) z)
    |some m=>fin env o (.v (.sl e t) (.o m) z)
   |false => .fail
  |_ => .fail
 | .load T a=>rdO env 0 a fun v=>match v with
  | .bx r _=>zS0a env o T r
  |_=>rdP env 0 a (fun r p=>atP r p fun t m y=>match env.is T t with
   |true=>match m with
    | .s=>fin env o (.v t .s y)
    | .j => .fail
    |_=>fin env o (.lz r p)
   |false => .fail) fun t y=>match env.is T t with
   |true=>fin env o (.v t .s y)
   |false => .fail
 | .store T a x=>rdT env T x fun t m y=>match env.is T t&&m.noJ with
  |true=>rdP env 0 a (fun r p=>meltP r p m fun m=>setAt r p t m y (match env.fs r,p with
   |true,[.der] => .get r fun w=>match w with
    | .v (.ptr T' t') (.o m') (some y')=>match m'.noJ with
     |true=>zDra (some (r,[])) (fin env o .un)
     |false => .fail
    |_ => .fail
   |_,_=>fin env o .un)) fun _ _ => .fail
  |false => .fail
 | .nilCheck x=>rdO env 0 x fun v=>match v with
  | .v (.ptr T t) .s y => .chk (Option.isSome y) (fin env o (.v (.ptr T t) .s y))
  | .v (.ptr _ _) (.o _) (some _)=>match self env x with
   |some s=>fin env o (.al s [.der])
   |none => .fail
  | .al r p=>memP r p (fin env o (.al r p))
  | .lz r p=>atP r p fun t m y=>match t,m,y with
   | .ptr _ _,.o _,some _=>memP r (p++[.der]) (fin env o (.al r (p++[.der])))
   |_,_,_ => .fail
  |_ => .fail
 | .binOp op T x y _=>rdV env T x fun t m a _=>match isNil y with
  |true=>evN env o op T y t a
  |false=>rdV env T y fun u m' b _=>match t,u,a,b with
   | .int k,.int k',a,b=>evI env o op k k' a b
   | .str,.str,a,b=>evS env o op a b
   | .bool,.bool,a,b=>evL env o op T a b
   |t,u,a,b=>match m.noJ&&m'.noJ with
    |true=>evQ env o op T t u a b
    |false => .fail
 | .unOp op T x=>rdV env T x fun t _ a _=>match op,t,a with
  | .not,.bool,a=>fin env o (.v .bool .s (!a))
  | .neg,.int k,a=>fin env o (.v (.int k) .s (negI k a))
  | .xor,.int k,a=>fin env o (.v (.int k) .s (notI k a))
  |_,_,_ => .fail
 | .convert S D x=>match env.ty S,env.ty D with
  |some _,some (.int k)=>rdInt env S x fun _ a=>fin env o (.v (.int k) .s (k.wrap a))
  |some _,some .str=>rdV env S x fun t m a _=>match env.is S t&&m.noJ,t,a with
   |true,.sl _ (.int .u8),a=>fin env o (.v .str .s (u8s a))
   |true,.int _,a=>fin env o (.v .str .s (runeB a))
   |_,_,_ => .fail
  |some _,some (.sl e (.int .u8))=>rdV env S x fun t m a src=>match env.is S t,t,m,a with
   |true,.str,_,a => .chk (decide (List.length a≤most)) (fin env o (.v (.sl e (.int .u8)) (.o .s) (nums a)))
   |true,.sl e' (.int .u8),.o .s,a=>match Nat.beq S D with
    |true=>take src (.chk (Nat.blt 0 (List.length a)) (fin env o (.v (.sl e' (.int .u8)) (.o .s) a)))
    |false => .fail
   |_,_,_,_ => .fail
  |_,_ => .fail
 | .makeFunc (.func f) first caps=>zdUa env first.toList fun l=>zdUa env caps.toList fun l'=>fin env o (.fn f l l')
 | .makeInterface T x=>rdV env T x fun t m y _=>match t.flat&&env.is T t&&m.isS with
  |true=>fin env o (.ifc T t y)
  |false => .fail
 | .panic x=>rdO env 0 x fun v=>match v with
  | .ifc T t y => .pan ⟨T,t,y⟩
  |_ => .fail
 | .makeSlice T n c=>match env.ty T with
  |some (.sl e t)=>rdInt env 0 n fun kn a=>rdInt env 0 c fun kc b=>match kn,kc with
   | .i64,.i64 => .chk (inR a b most) (fin env o (.v (.sl e t) (.o (t.ownE env.om)) (List.replicate a.toNat t.dflt)))
   |_,_ => .fail
  |_ => .fail
 | .slice T x lo hi none=>rdO env T x fun v=>zlRa v (self env x) fun t m y src=>match t,y with
  | .str,y=>match env.is T .str with
   |true=>bound env lo 0 fun l=>bound env hi (List.length y:Nat) fun h =>
    .chk (inR l h (List.length y)) (fin env o (.v .str .s (rng y l h)))
   |false => .fail
  | .sl e t,y=>match env.is T (.sl e t) with
   |true=>bound env lo 0 fun l=>bound env hi (List.length y:Nat) fun h =>
    .chk (inR l h (List.length y))
     (match m with
     | .s=>fin env o (.v (.sl e t) .s (rng y l h))
     |m=>match m.noJ with
      |true=>cutS env o e t y l h src
      |false => .fail)
   |false => .fail
  |_,_ => .fail
 | .fieldAddr S x i=>rdP env 0 x (fun r p=>atP r p fun t m y=>match env.is S t,getP t m y [.fld i] with
   |true,some ⟨u,_,_⟩=>match Nat.beq u.size 0 with
    |false=>fin env o (.al r (p++[.fld i]))
    |true => .fail
   |_,_ => .fail) fun t y=>match env.is S t,getP t .s y [.fld i] with
  |true,some ⟨u,.s,z⟩=>match Nat.beq u.size 0 with
   |false=>fin env o (.v (.ptr 0 u) .s (some z))
   |true => .fail
  |_,_ => .fail
 | .indexAddr T x i=>rdInt env 0 i fun _ i=>rdO env T x fun v=>match v with
   | .al r p=>zgZa env o T i r p
   | .v (.ptr _ _) (.o _) (some _)=>rdP env 0 x (fun r p=>zgZa env o T i r p) fun _ _ => .fail
   |v=>zlRa v (self env x) fun t m y src=>idxA env o T i t m y src
 | .index T x i=>rdInt env 0 i fun _ i=>rdV env T x fun t m y _=>match t,m,y with
   | .str,_,y=>match env.is T .str with
    |true => .chk (inB i (List.length y)) (fin env o (.v (.int .u8) .s (bt y i)))
    |false => .fail
   | .arr n t,.s,y=>match env.is T (.arr n t) with
    |true => .chk (inB i n) (fin env o (.v t .s (List.getD y i.toNat t.dflt)))
    |false => .fail
   |_,_,_ => .fail
 | .extract x i=>rdO env 0 x fun v=>match v with
  | .tup l=>match l[i]? with
   |some (.v t .s y)=>fin env o (.v t .s y)
   |some (.v t m y)=>match self env x with
    |some s=>setS s (.tup (l.set i .un)) (fin env o (.v t m y))
    |none => .fail
   |_ => .fail
  |_ => .fail
 | .call c=>match c.callee with
  | .builtin b=>evB env o b c.args.toList c.argTypes.toList
  | .value x=>rdO env 0 x fun v=>match v with
   | .fn f fst caps=>match env.il f with
    |true=>zYWa env c.args.toList c.argTypes.toList fun xs => .inl f o.dst (alsOf fst++(xs++alsOf caps)) fun r=>fin env o r
    |false=>match fst,caps with
     |[],[]=>enter env f c.args.toList c.argTypes.toList fun r=>fin env o r
     |_,_ => .fail
   |_ => .fail
  |_ => .fail
 | .defer c=>match c.callee,c.args.toList,env.df with
  | .value x,[],true=>rdO env 0 x fun v=>match v with
   | .fn f fst caps => .get (env.b+env.n) fun u=>match u with
    | .tup [] => .put (env.b+env.n) (.fn f fst caps) (fin env o .un)
    |_ => .fail
   |_ => .fail
  |_,_,_ => .fail
 |_ => .fail
inductive Ex where
 |normal
 |exit (id:Nat)
 |ret
 |pan (p:PanV)
def skipS (env:Env) (st:St) (dst:Option Nat):St:=match dst with
 |some d=>st.put (env.b+d) (.tup [])
 |none=>st
noncomputable def skipK {R:Type} (env:Env) (st:St) (dst:Option Nat) (K:St→Option R):Option R:=match dst with
 |some d=>match Nat.blt d env.n with
  |true=>K (st.put (env.b+d) (.tup []))
  |false=>dn200
 |none=>K st
theorem zqPa {R:Type} {env:Env} {st:St} {dst:Option Nat} {K:St→Option R} {r:R} (h:skipK env st dst K=some r):K (skipS env st dst)=some r∧∀d,dst=some d→d<env.n:=by
 unfold skipK at h;split at h
 ·split at h
  ·rename_i d hd;exact ⟨h,fun d' hd'=>by cases hd'; exact Nat.lt_of_lt_of_le (Nat.lt_succ_self _) (Nat.le_of_ble_eq_true hd)⟩
  ·cases h
 ·exact ⟨h,nofun⟩
noncomputable def evG {R:Type} (env:Env) (C:Cx R) (all:List Oper) (o:Oper) (st:St) (K:St→Option R):Option R :=
 match o.guard with
 |none=>(evOp env o).run C st fun _ st=>K st
 |some (j,want)=>match (match all[j]? with|some oj=>oj.dst|none=>none) with
  |none=>none
  |some d=>match Nat.blt d env.n with
   |false=>none
   |true=>match st (env.b+d) with
    | .v .bool .s b=>cond b
      (match want with
       |true=>(evOp env o).run C (st.put (env.b+d) (.v .bool .s true)) fun _ st=>K st
       |false=>skipK env (st.put (env.b+d) (.v .bool .s true)) o.dst K)
      (match want with
       |false=>(evOp env o).run C (st.put (env.b+d) (.v .bool .s false)) fun _ st=>K st
       |true=>skipK env (st.put (env.b+d) (.v .bool .s false)) o.dst K)
    | .tup []=>skipK env st o.dst K
    |_=>none
def zPRa:List PE→List PE→Bool
 |[],[]=>true
 | .fld i::p,.fld j::q=>match Nat.beq i j with
  |true=>zPRa p q
  |false=>false
 | .der::p,.der::q=>zPRa p q
 | .idx i::p,.idx j::q=>(i==j)&&zPRa p q
 |_,_=>false
def fuOk (env:Env) (o:Oper):Bool:=match o.dst with
 |some d=>env.fu (env.b+d)
 |none=>false
def fuB (env:Env) (d d1 d2 d' d1' d2' q sx s:Nat):Bool:=Nat.beq d d'&&(Nat.beq d1 d1'&&(Nat.beq d2 d2'&&(!Nat.beq d q&&(!Nat.beq d d1&&(!Nat.beq d d2&&(Nat.blt d env.n&&(Nat.blt d1 env.n&&(Nat.blt d2 env.n&&(Nat.blt q env.n&&(Nat.blt sx env.n&&Nat.blt s env.n))))))))))
def zIOa (o:Oper):Bool:=match o.guard with
 |none=>true
 |some _=>false
noncomputable def evFu (env:Env) (o o1 o2 o3:Oper):RM Unit :=
 match zIOa o&&(zIOa o1&&(zIOa o2&&zIOa o3)) with
 |false => .fail
 |true=>match o.op,o.dst,o1.op,o1.dst,o2.op,o2.dst,o3.op,o3.dst with
  | .call c,some d,.nilCheck (.tmp q),some d1,.fieldAddr S (.tmp d1') i,some d2,.store T3 (.tmp d2') (.tmp d'),none =>
   match c.callee,c.args.toList,c.argTypes.toList with
   | .builtin .append,[.tmp sx,.tmp s],[T,U]=>match fuB env d d1 d2 d' d1' d2' q sx s with
    |false => .fail
    |true => .get (env.b+sx) fun v=>match v with
     | .lz r p => .get r fun rv=>match rv with
      | .v t0 m0 x0=>match getP t0 m0 x0 p with
       |some ⟨.sl e u,.o .s,y⟩ => .get (env.b+s) fun z=>match z with
        | .v (.sl e' u') m2 y2=>match env.is T (.sl e u)&&(env.is T3 (.sl e u)&&(env.is U (.sl e u)&&(u.flat&&(m2.noJ&&(!Nat.beq (env.b+s) r&&!Nat.beq (env.b+d2) r))))),castI (.sl e' u') (.sl e u) y2 with
         |true,some y2 => .get (env.b+q) fun qv=>match qv with
          | .al r' p'=>match Nat.beq r r',getP t0 m0 x0 p' with
           |true,some ⟨t1,_,_⟩=>match env.is S t1 with
            |true => .chk (zPRa p (p'++[.fld i])) (.chk (decide (List.length (α:=u.I) y+List.length (α:=u.I) y2≤most)) (setAt r p (.sl e u) (.o .s) (List.append (α:=u.I) y y2) (.put (env.b+d) .un (.put (env.b+d1) .un (.put (env.b+d2) .un (.ret ()))))))
            |false => .fail
           |_,_ => .fail
          |_ => .fail
         |_,_ => .fail
        |_ => .fail
       |_ => .fail
      |_ => .fail
     |_ => .fail
   |_,_,_ => .fail
  |_,_,_,_,_,_,_,_ => .fail
noncomputable def evOps {R:Type} (env:Env) (C:Cx R) (all:List Oper):List Oper→St→(St→Option R)→Option R
 |[],st,K=>K st
 |o::os,st,K=>match fuOk env o with
  |false=>evG env C all o st fun st=>evOps env C all os st K
  |true=>match os with
   |o1::o2::o3::os'=>(evFu env o o1 o2 o3).run C st fun _ st=>evOps env C all os' st K
   |_=>none
def zvWa:Op→Bool
 | .move _ | .assign _ | .pick _ _ _ | .build _ _ | .nilCheck _ | .binOp _ _ _ _ _ | .unOp _ _ _ | .makeFunc (.func _) _ _ | .slice _ _ _ _ none | .fieldAddr _ _ _ | .field _ _ _ | .indexAddr _ _ _ | .index _ _ _ | .extract _ _=>true
 | .call c=>match c.callee with
  | .builtin .len | .builtin .min | .builtin .max=>true
  |_=>false
 |_=>false
def zB2a:Op→Bool
 | .load _ _=>true
 |_=>false
def zVXa (env:Env):Op→Bool
 | .convert _ D _=>match env.ty D with
  |some (.int _)=>true
  |_=>false
 |_=>false
def zp0a (env:Env) (ro:Bool) (st:St) (o:Oper):Bool:=zvWa o.op || (zVXa env o.op || match o.op with
 | .load _ (.tmp s)=>ro || match st (env.b+s) with
  | .v (.ptr _ _) .s _=>true
  | .tup []=>true
  | .bx _ _=>true
  |_=>false
 |_=>false)
noncomputable def evAll {R:Type}:List (Option R)→Option R
 |[]=>dn200
 |x::xs=>match xs with
  |[]=>x
  |_=>both x (evAll xs)
def opAt (ops:Array Oper) (i:Nat) (f:Oper→Bool):Bool:=match ops[i]? with
 |some o=>f o
 |none=>false
noncomputable def zfTa {R:Type} (env:Env) (C:Cx R) (ops:Array Oper) (ro:Bool):Nat→Array Bool→St→(St→Option R)→Option R
 |0,listed,st,K=>match Region.ready .any ops listed with
  |[]=>K st
  |_=>none
 |fuel+1,listed,st,K=>match (Region.ready .any ops listed).find? (fun i=>Region.free .any ops listed i&&opAt ops i (zp0a env ro st)) with
  |some i=>match ops[i]? with
   |some o=>evG env C ops.toList o st fun st=>zfTa env C ops ro fuel (listed.setIfInBounds i true) st K
   |none=>none
  |none=>match Region.ready .any ops listed with
   |[]=>K st
   |l=>match ro with
    |false=>evAll (l.map fun i=>match ops[i]? with
     |some o=>evG env C ops.toList o st fun st=>zfTa env C ops ro fuel (listed.setIfInBounds i true) st K
     |none=>none)
    |true=>none
def dstOk (rs:List Nat) (ops:Array Oper):Bool:=ops.toList.all fun o=>match o.dst with
 |some d=>rs.all fun r=>!(Nat.beq r d)
 |none=>true
def zcua:Code→Option Nat
 | .region id _ _=>some id
 | .seq a b=>match zcua a with
  |some i=>some i
  |none=>zcua b
 | .block _ c=>zcua c
 | .loop c=>zcua c
 | .scope c=>zcua c
 |_=>none
abbrev Loops:=Bool→Nat→(R:Type)→St→(Ex→St→Option R)→Option R
abbrev Inl:=FuncId→Option Nat→(R:Type)→St→List SV→(SV→St→Option R)→(PanV→St→Option R)→Option R
def cx {R:Type} (inl:Inl) (K:Ex→St→Option R):Cx R:=⟨fun p st=>K (.pan p) st,fun f d st xs k=>inl f d R st xs k (fun p st=>K (.pan p) st)⟩
def Cx.no {R:Type}:Cx R:=⟨fun _ _=>none,fun _ _ _ _ _=>none⟩
def zlHa:List (Nat×Bool)→RM Unit
 |[] => .ret ()
 |(s,z)::l=>match z with
  |false=>zlHa l
  |true => .get s fun v=>match v with
   | .v _ .s _=>zlHa l
   | .v _ .j _ => .fail
   | .v _ _ _=>zDra (some (s,[])) (zlHa l)
   |_=>zlHa l
noncomputable def zAka {R:Type} (l:List (Nat×Bool)) (st:St) (K:St→Option R):Option R:=(zlHa l).run Cx.no st fun _ st=>K (st.only (l.map Prod.fst))
def zU0a (env:Env) (b:Code):Option Nat:=match zcua b with
 |some i=>match env.js i with
  |true=>some i
  |false=>none
 |none=>none
noncomputable def evC {R:Type} (env:Env) (lp:Loops) (inl:Inl):Code→St→(Ex→St→Option R)→Option R
 | .skip,st,K=>K .normal st
 | .region id ops false,st,K=>evOps env (cx inl K) ops.toList ops.toList (st.at (env.lv id)) fun st=>K .normal st
 | .region id ops true,st,K=>match Region.noSelect ops&&dstOk env.rs ops with
  |true=>zfTa env (cx inl K) ops (ops.toList.all fun o=>zvWa o.op || zB2a o.op) ops.size (Array.replicate ops.size false) (st.at (env.lv id)) fun st=>K .normal st
  |false=>none
 | .seq a b,st,K=>match zU0a env b with
  |none=>evC env lp inl a st fun e st=>match e with
   | .normal=>evC env lp inl b st K
   |e=>K e st
  |some i=>lp true i R st fun e st=>match e with
   | .normal=>evC env lp inl b st K
   |e=>K e st
 | .cond c a b,st,K=>match c with
  | .tmp s=>match Nat.blt s env.n with
   |false=>none
   |true=>match st (env.b+s) with
    | .v .bool .s x=>cond x (evC env lp inl a (st.put (env.b+s) (.v .bool .s true)) K) (evC env lp inl b (st.put (env.b+s) (.v .bool .s false)) K)
    |_=>none
  |_=>none
 | .block id c,st,K=>evC env lp inl c st fun e st=>match e with
  | .exit j=>match Nat.beq j id with
   |true=>K .normal st
   |false=>K (.exit j) st
  |e=>K e st
 | .loop c,st,K=>match zcua c with
  |some i=>lp false i R st K
  |none=>none
 | .exit id,st,K=>K (.exit id) st
 | .ret,st,K=>K .ret st
 | .scope c,st,K=>evC env lp inl c st K
 |_,_,_=>none
noncomputable def zJOa {R:Type} (env:Env) (lp:Loops) (inl:Inl) (c:Code) (hd:List (Nat×Bool)) (out:Ex→List (Nat×Bool)):Nat→St→(Ex→St→Option R)→Option R
 |0,_,_=>none
 |n+1,st,K=>evC env lp inl c st fun e st=>match e with
  | .normal=>zAka hd st fun st=>zJOa env lp inl c hd out n st K
  |e=>zAka (out e) st (K e)
def zCTa (env:Env) (lp:Loops) (inl:Inl) (c:Code):Prop:=∀i,zcua c=some i→∀R st K r,lp false i R st K=some r→∃(hd:List (Nat×Bool)) (out:Ex→List (Nat×Bool)) (n:Nat),zAka hd st (fun st=>zJOa env lp inl c hd out n st K)=some r
def zDTa (env:Env) (lp:Loops) (inl:Inl) (a:Code) (i:Nat):Prop:=∀R st K r,lp true i R st K=some r→∃(hd:List (Nat×Bool)) (out:Ex→List (Nat×Bool)),zAka hd st (fun st=>evC env lp inl a st fun e st=>zAka (out e) st (K e))=some r
def zsaa (env:Env) (lp:Loops) (inl:Inl):Code→Prop
 | .seq a b=>zsaa env lp inl a∧zsaa env lp inl b∧∀i,zU0a env b=some i→zDTa env lp inl a i
 | .cond _ a b=>zsaa env lp inl a∧zsaa env lp inl b
 | .block _ c=>zsaa env lp inl c
 | .scope c=>zsaa env lp inl c
 | .loop c=>zCTa env lp inl c∧zsaa env lp inl c
 |_=>True
def hi (b r:Nat):Bool:=Nat.ble b r&&Nat.blt r gh0
def SV.cut (b:Nat):SV→SV
 | .al r p=>cond (hi b r) .un (.al r p)
 | .lz r p=>cond (hi b r) .un (.lz r p)
 | .sub r p l h=>cond (hi b r) .un (.sub r p l h)
 | .fn f fst caps=>cond ((fst++caps).any fun c=>hi b c.1) .un (.fn f fst caps)
 | .bx r p=>cond (hi b r) .un (.bx r p)
 |u=>u
def St.enter (st:St) (b:Nat) (xs:List SV):St:=fun i=>match hi b i with
 |true=>(xs.getD (i-b) .un).cut b
 |false=>(st i).cut b
def St.leave (st:St) (b:Nat):St:=fun i=>match hi b i with
 |true => .un
 |false=>(st i).cut b
end
end Go.Trm
namespace Go.Trm
def Ty.agg:Ty→Bool
 | .unit | .pair _ _ | .arr _ _=>true
 |_=>false
abbrev Cells:=Nat→Value
abbrev Blks:=Nat→Prop
def valOf (t:Ty) (c:Cells):Value:=if t.agg then .agg ((List.range t.size).map c).toArray else c 0
def rowOf (cs:Array Value) (o:Nat):Cells:=fun j=>cs.getD (o+j) undef
def rowW (w:World) (b o:Nat):Cells:=fun j=>match w.heap[b]? with
 |some (.cells cs _ _)=>rowOf cs o j
 |_=>undef
def zTga (w:World) (b n:Nat) (wr:Bool):Prop :=
 ∃cs e fz,w.heap[b]?=some (.cells cs e fz)∧n≤cs.size∧(wr=true→fz.1=fz.2∨cs.size≤fz.1)
structure Disj (fs:Nat→Blks):Prop where
 disj:∀i j,i≠j→∀b,fs i b→¬fs j b
def errV (x:Bool) (v:Value):Prop:=match x with
 |false=>v = .nilIface
 |true=>∃T p,v = .iface T p
def rep (F:Blks) (w:World):(t:Ty)→Md→t.I→Cells→Blks→Prop
 |_,.j,_,_,_=>True
 | .int k,_,(x:Int),c,_=>c 0 = .int k x∧k.has x
 | .bool,_,(x:Bool),c,_=>c 0 = .bool x
 | .str,_,(x:List UInt8),c,_=>c 0 = .string ⟨x.toArray⟩∧x.length≤2 ^ 63-1
 | .unit,_,_,_,_=>True
 | .err,_,(x:Bool),c,_=>errV x (c 0)
 | .pair a b,m,x,c,fp=>∃fa fb:Blks,(∀i,fa i→fp i)∧(∀i,fb i→fp i)∧(∀i,fa i→¬fb i) ∧
   rep F w a m.fst x.1 c fa∧rep F w b m.snd x.2 (fun j=>c (a.size+j)) fb
 | .arr n t,m,(x:List t.I),c,fp=>x.length=n∧∃fs:Nat→Blks,Disj fs∧(∀i b,fs i b→fp b) ∧
   ∀i,i<n→rep F w t m.el (x.getD i t.dflt) (fun j=>c (i*t.size+j)) (fs i)
 | .sl _ t,m,(x:List t.I),c,fp=>∃A cap,c 0 = .slice A x.length cap∧x.length≤cap∧cap≤2 ^ 63-1∧(A=none→cap=0)∧∀a,A=some a→(0<cap→a.spot=none) ∧
   match m with
   | .o m=>fp a.block∧zTga w a.block (a.off+cap*t.size) true∧∃fs:Nat→Blks,Disj fs∧(∀i b,fs i b→fp b∧b≠a.block) ∧
     ∀i,i<x.length→rep F w t m (x.getD i t.dflt) (rowW w a.block (a.off+i*t.size)) (fs i)
   | .s=>(x.length*t.size=0∨(F a.block∧zTga w a.block (a.off+x.length*t.size) false)) ∧
     ∀i,i<x.length→rep F w t .s (x.getD i t.dflt) (rowW w a.block (a.off+i*t.size)) (fun _=>False)
   |_=>False
 | .ptr _ t,m,(x:Option t.I),c,fp=>∃A,c 0 = .pointer A∧match x with
  |none=>A=none
  |some y=>∃a,A=some a∧a.spot=none∧match m with
   | .o m=>fp a.block∧zTga w a.block (a.off+t.size) true∧∃f:Blks,(∀b,f b→fp b∧b≠a.block)∧rep F w t m y (rowW w a.block a.off) f
   | .s=>F a.block∧zTga w a.block (a.off+t.size) false∧rep F w t .s y (rowW w a.block a.off) (fun _=>False)
   |_=>False
structure Still (w w':World):Prop where
 os:w'.os=w.os
 tape:w'.tape=w.tape
 output:w'.output=w.output
theorem Still.refl (w:World):Still w w:=⟨rfl,rfl,rfl⟩
theorem Still.trans {a b c:World} (h:Still a b) (k:Still b c):Still a c:=⟨k.os.trans h.os,k.tape.trans h.tape,k.output.trans h.output⟩
structure Grew (w w':World):Prop where
 still:Still w w'
 size:w.heap.size≤w'.heap.size
theorem Grew.refl (w:World):Grew w w:=⟨Still.refl w,Nat.le_refl _⟩
theorem Grew.trans {a b c:World} (h:Grew a b) (k:Grew b c):Grew a c:=⟨h.still.trans k.still,Nat.le_trans h.size k.size⟩
def Same (w w':World) (b:Nat):Prop:=w'.heap[b]?=w.heap[b]?
theorem zRfa {w w':World} {b:Nat} (h:Same w w' b) (o:Nat):rowW w' b o=rowW w b o:=by
 unfold rowW; rw[h]
theorem zAca {w w':World} {b n:Nat} {wr:Bool} (h:Same w w' b):zTga w' b n wr↔zTga w b n wr:=by
 unfold zTga; rw[h]
theorem rep_j {F:Blks} {w:World} {t:Ty} {x:t.I} {c:Cells} {fp:Blks}:rep F w t .j x c fp:=by
 cases t<;>simp[rep]
theorem zEaa {F:Blks} {w:World}:∀ {t:Ty} {m:Md} {x:t.I} {c c':Cells} {fp:Blks},(∀j,j<t.size→c j=c' j)→rep F w t m x c fp→rep F w t m x c' fp:=by
 intro t
 induction t with
 |int k=>intro m x c c' fp h r; cases m<;>simp only[rep]at r ⊢<;>rw[←h 0 (by simp[Ty.size])]<;>exact r
 |bool=>intro m x c c' fp h r; cases m<;>simp only[rep]at r ⊢<;>rw[←h 0 (by simp[Ty.size])]<;>exact r
 |str=>intro m x c c' fp h r; cases m<;>simp only[rep]at r ⊢<;>rw[←h 0 (by simp[Ty.size])]<;>exact r
 |err=>intro m x c c' fp h r; cases m<;>simp only[rep]at r ⊢<;>rw[←h 0 (by simp[Ty.size])]<;>exact r
 |unit=>intro m x c c' fp h r; cases m<;>simp only[rep]at r ⊢
 |sl e t ih=>intro m x c c' fp h r; cases m<;>simp only[rep]at r ⊢<;>rw[←h 0 (by simp[Ty.size])]<;>exact r
 |ptr T t ih=>intro m x c c' fp h r; cases m<;>simp only[rep]at r ⊢<;>rw[←h 0 (by simp[Ty.size])]<;>exact r
 |pair a b iha ihb =>
  intro m x c c' fp h r;cases m with
  |j=>exact rep_j
  |_ =>
   simp only[rep]at r ⊢;obtain ⟨fa,fb,h1,h2,h3,r1,r2⟩:=r;exact ⟨fa,fb,h1,h2,h3,iha (fun j hj=>h j (by simp[Ty.size]; omega)) r1,ihb (fun j hj=>h _ (by simp[Ty.size]; omega)) r2⟩
 |arr n t ih =>
  intro m x c c' fp h r;cases m with
  |j=>exact rep_j
  |_ =>
   simp only[rep]at r ⊢;obtain ⟨hn,fs,h1,h2,r⟩:=r;refine ⟨hn,fs,h1,h2,fun i hi=>ih (fun j hj=>h _ ?_) (r i hi)⟩;simp only[Ty.size]
   calc i*t.size+j<i*t.size+t.size:=by omega
    _=(i+1)*t.size:=by rw[Nat.add_mul,Nat.one_mul]
    _≤n*t.size:=Nat.mul_le_mul_right _ hi
theorem zEoa {F:Blks} {w:World}:∀ {t:Ty} {m:Md} {x:t.I} {c:Cells} {fp fp':Blks},(∀b,fp b→fp' b)→rep F w t m x c fp→rep F w t m x c fp':=by
 intro t;cases t with
 |int k=>intro m x c fp fp' h r; cases m<;>simp only[rep]at r ⊢<;>exact r
 |bool=>intro m x c fp fp' h r; cases m<;>simp only[rep]at r ⊢<;>exact r
 |str=>intro m x c fp fp' h r; cases m<;>simp only[rep]at r ⊢<;>exact r
 |err=>intro m x c fp fp' h r; cases m<;>simp only[rep]at r ⊢<;>exact r
 |unit=>intro m x c fp fp' h r; cases m<;>simp only[rep]
 |sl e t =>
  intro m x c fp fp' h r;cases m<;>simp only[rep]at r ⊢
  ·exact r
  ·obtain ⟨A,cap,h1,h2,h3,h4,r⟩:=r;refine ⟨A,cap,h1,h2,h3,h4,fun a ha=>?_⟩;obtain ⟨s,r1,r2,fs,r3,r4,r5⟩:=r a ha;exact ⟨s,h _ r1,r2,fs,r3,fun i b hb=>⟨h _ (r4 i b hb).1,(r4 i b hb).2⟩,r5⟩
  ·exact r
 |ptr T t =>
  intro m x c fp fp' h r;cases m<;>simp only[rep]at r ⊢
  ·exact r
  ·obtain ⟨A,h1,r⟩:=r;refine ⟨A,h1,?_⟩;cases x with
   |none=>exact r
   |some y =>
    obtain ⟨a,ha,s,r1,r2,f,r3,r4⟩:=r;exact ⟨a,ha,s,h _ r1,r2,f,fun b hb=>⟨h _ (r3 b hb).1,(r3 b hb).2⟩,r4⟩
  ·exact r
 |pair a b =>
  intro m x c fp fp' h r;cases m with
  |j=>exact rep_j
  |_ =>
   simp only[rep]at r ⊢;obtain ⟨fa,fb,h1,h2,h3,r⟩:=r;exact ⟨fa,fb,fun i hi=>h _ (h1 i hi),fun i hi=>h _ (h2 i hi),h3,r⟩
 |arr n t =>
  intro m x c fp fp' h r;cases m with
  |j=>exact rep_j
  |_ =>
   simp only[rep]at r ⊢;obtain ⟨hn,fs,h1,h2,r⟩:=r;exact ⟨hn,fs,h1,fun i b hb=>h _ (h2 i b hb),r⟩
theorem zxaa {F F':Blks} {w w':World} (hF:∀b,F b→F' b) (hs:∀b,F b→Same w w' b):∀ {t:Ty} {m:Md} {x:t.I} {c:Cells} {fp:Blks},
  (∀b,fp b→Same w w' b)→rep F w t m x c fp→rep F' w' t m x c fp:=by
 intro t
 induction t with
 |int k=>intro m x c fp h r; cases m<;>simp only[rep]at r ⊢<;>exact r
 |bool=>intro m x c fp h r; cases m<;>simp only[rep]at r ⊢<;>exact r
 |str=>intro m x c fp h r; cases m<;>simp only[rep]at r ⊢<;>exact r
 |err=>intro m x c fp h r; cases m<;>simp only[rep]at r ⊢<;>exact r
 |unit=>intro m x c fp h r; cases m<;>simp only[rep]
 |sl e t ih =>
  intro m x c fp h r;cases m<;>simp only[rep]at r ⊢
  ·obtain ⟨A,cap,h1,h2,h3,h4,r⟩:=r;refine ⟨A,cap,h1,h2,h3,h4,fun a ha=>?_⟩;obtain ⟨s,r1,r2⟩:=r a ha;refine ⟨s,?_,?_⟩
   ·rcases r1 with r1|⟨r1,r3⟩
    ·exact .inl r1
    ·exact .inr ⟨hF _ r1,(zAca (hs _ r1)).2 r3⟩
   ·intro i hi;have:=ih (fp:=fun _=>False) (fun b hb=>hb.elim) (r2 i hi);rcases r1 with r1|⟨r1,r3⟩
    ·refine zEaa (fun j hj=>?_) this;rcases Nat.mul_eq_zero.1 r1 with h0|h0
     ·omega
     ·omega
    ·rw[zRfa (hs _ r1)]; exact this
  ·obtain ⟨A,cap,h1,h2,h3,h4,r⟩:=r;refine ⟨A,cap,h1,h2,h3,h4,fun a ha=>?_⟩;obtain ⟨s,r1,r2,fs,r3,r4,r5⟩:=r a ha;refine ⟨s,r1,(zAca (h _ r1)).2 r2,fs,r3,r4,fun i hi=>?_⟩;rw[zRfa (h _ r1)];exact ih (fun b hb=>h _ (r4 i b hb).1) (r5 i hi)
  ·exact r
 |ptr T t ih =>
  intro m x c fp h r;cases m<;>simp only[rep]at r ⊢
  ·obtain ⟨A,h1,r⟩:=r;refine ⟨A,h1,?_⟩;cases x with
   |none=>exact r
   |some y =>
    obtain ⟨a,ha,s,r1,r2,r3⟩:=r;refine ⟨a,ha,s,hF _ r1,(zAca (hs _ r1)).2 r2,?_⟩;rw[zRfa (hs _ r1)];exact ih (fp:=fun _=>False) (fun b hb=>hb.elim) r3
  ·obtain ⟨A,h1,r⟩:=r;refine ⟨A,h1,?_⟩;cases x with
   |none=>exact r
   |some y =>
    obtain ⟨a,ha,s,r1,r2,f,r3,r4⟩:=r;refine ⟨a,ha,s,r1,(zAca (h _ r1)).2 r2,f,r3,?_⟩;rw[zRfa (h _ r1)];exact ih (fun b hb=>h _ (r3 b hb).1) r4
  ·obtain ⟨A,h1,r⟩:=r;refine ⟨A,h1,?_⟩;cases x with
   |none=>exact r
   |some y=>obtain ⟨a,ha,s,r⟩:=r; exact r.elim
 |pair a b iha ihb =>
  intro m x c fp h r;cases m with
  |j=>exact rep_j
  |_ =>
   simp only[rep]at r ⊢;obtain ⟨fa,fb,h1,h2,h3,r1,r2⟩:=r;exact ⟨fa,fb,h1,h2,h3,iha (fun b hb=>h _ (h1 b hb)) r1,ihb (fun b hb=>h _ (h2 b hb)) r2⟩
 |arr n t ih =>
  intro m x c fp h r;cases m with
  |j=>exact rep_j
  |_ =>
   simp only[rep]at r ⊢;obtain ⟨hn,fs,h1,h2,r⟩:=r;exact ⟨hn,fs,h1,h2,fun i hi=>ih (fun b hb=>h _ (h2 i b hb)) (r i hi)⟩
end Go.Trm
