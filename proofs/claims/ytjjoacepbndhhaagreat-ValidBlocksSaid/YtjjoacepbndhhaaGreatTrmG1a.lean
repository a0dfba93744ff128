import Derived.Test.YtjjoacepbndhhaaGreatTrmPlain
import Derived.Tactics
import Derived.Tactics2
import Derived.Defers
import Derived.Recover
import Derived.Laws.Pointers
import Derived.Test.YtjjoacepbndhhaaGreatProg
import Derived.KernelRfl
set_option linter.unusedVariables false
set_option linter.unusedSimpArgs false
namespace Go.Trm.G1
variable {R:Type}
open Go.Proofs
set_option maxRecDepth 100000
abbrev Ty0:Ty:=(.pair (.int .i64) (.pair (.int .i64) (.pair (.sl 3 (.int .i64)) .unit)))
abbrev It1:Type:=(List ((Int)×(Bool)×(Int)×Unit))×(Int)×(Int)×(Int)×(Int)×(Bool)×Unit
abbrev It2:Type:=(List ((Int)×(Bool)×Unit))×(List ((Int)×(Bool)×(Int)×Unit))×It1
abbrev It3:Type:=(List ((Int)×(List (Int))×(List (Int))×(Int)×(Bool)×Unit))×Unit
abbrev It4:Type:=((List ((List (Int))×(List (Int))×Unit))×(List (Int))×It2)×(List (Int))×(List (Int))×It3
abbrev Ty5:Ty:=(.sl 51 (.pair (.sl 3 (.int .i64)) (.pair (.sl 3 (.int .i64)) .unit)))
abbrev Ty6:Ty:=(.pair (.int .i64) (.pair (.int .i64) (.pair (.int .i64) (.pair .bool .unit))))
abbrev Ty7:Ty:=(.pair (.sl 121 (.pair (.int .i64) (.pair .bool (.pair (.int .i64) .unit)))) (.pair (.int .i64) Ty6))
abbrev Ty8:Ty:=(.pair (.sl 121 (.pair (.int .i64) (.pair .bool (.pair (.int .i64) .unit)))) Ty7)
abbrev Ty9:Ty:=(.pair (.sl 3 (.int .i64)) (.pair (.sl 54 (.pair (.int .i64) (.pair .bool .unit))) Ty8))
abbrev Ty10:Ty:=(.pair (.sl 3 (.int .i64)) (.pair (.sl 3 (.int .i64)) (.pair (.int .i64) (.pair .bool .unit))))
abbrev Ty11:Ty:=(.pair (.sl 3 (.int .i64)) (.pair (.sl 158 (.pair (.int .i64) Ty10)) .unit))
abbrev Ty12:Ty:=(.ptr 51 (.pair (.sl 3 (.int .i64)) (.pair (.sl 3 (.int .i64)) .unit)))
abbrev It13:Type:=(List (Int))×(List ((Int)×(Int)×(Int)×(Int)×(List (Int))×Unit))×Unit
abbrev Ty14:Ty:=(.pair (.sl 3 (.int .i64)) (.pair (.sl 45 (.pair (.int .i64) (.pair (.int .i64) Ty0))) .unit))
abbrev It15:Type:=(List UInt8)×(Int)×(Int)×((Int)×(Bool)×(Int)×Unit)×(Bool)×Unit
abbrev It16:Type:=(Bool)×(List ((Int)×(Int)×(Int)×(Int)×(List (Int))×Unit))×Unit
abbrev It17:Type:=(List ((Int)×(Int)×(Int)×(Int)×(List (Int))×Unit))×(List (Int))×Unit
abbrev It18:Type:=(List ((Int)×It17))×(List ((List UInt8)×(List (Int))×Unit))×Unit
abbrev It19:Type:=(List ((List UInt8)×(Int)×(Int)×Unit))×(List (Int))×(List ((Int)×It17))×(List (Int))×It18
abbrev It20:Type:=(List ((Int)×(Bool)×(Int)×Unit))×(List ((Int)×(Bool)×(Int)×Unit))×(List ((Int)×It16))×It19
abbrev It21:Type:=(List ((List (Int))×(List (Int))×Unit))×(List ((List UInt8)×It15))×(List ((Int)×It13))×It20
abbrev Ty22:Ty:=(.pair (.pair (.int .i64) (.pair .bool (.pair (.int .i64) .unit))) (.pair .bool .unit))
abbrev Ty23:Ty:=(.pair .str (.pair .str (.pair (.int .i64) (.pair (.int .i64) Ty22))))
abbrev Ty24:Ty:=(.pair .bool (.pair (.sl 45 (.pair (.int .i64) (.pair (.int .i64) Ty0))) .unit))
abbrev Ty25:Ty:=(.pair (.sl 45 (.pair (.int .i64) (.pair (.int .i64) Ty0))) (.pair (.sl 3 (.int .i64)) .unit))
abbrev Ty26:Ty:=(.pair (.sl 45 (.pair (.int .i64) (.pair (.int .i64) Ty0))) (.pair (.sl 5 (.int .u8)) .unit))
abbrev Ty27:Ty:=(.pair (.sl 133 (.pair (.int .i64) Ty26)) (.pair (.sl 135 (.pair .str (.pair (.sl 5 (.int .u8)) .unit))) .unit))
abbrev Ty28:Ty:=(.pair (.sl 130 (.pair (.int .i64) Ty25)) (.pair (.sl 3 (.int .i64)) Ty27))
abbrev Ty29:Ty:=(.pair (.sl 128 (.pair .str (.pair (.int .i64) (.pair (.int .i64) .unit)))) (.pair (.sl 3 (.int .i64)) Ty28))
abbrev Ty30:Ty:=(.pair (.sl 121 (.pair (.int .i64) (.pair .bool (.pair (.int .i64) .unit)))) (.pair (.sl 126 (.pair (.int .i64) Ty24)) Ty29))
abbrev Ty31:Ty:=(.pair (.sl 121 (.pair (.int .i64) (.pair .bool (.pair (.int .i64) .unit)))) Ty30)
abbrev Ty32:Ty:=(.pair Ty5 (.pair (.sl 123 Ty23) (.pair (.sl 42 (.pair (.int .i64) Ty14)) Ty31)))
abbrev Ty33:Ty:=(.pair (.int .i64) (.pair (.int .i64) (.pair .bool (.pair .bool .unit))))
abbrev Ty34:Ty:=(.pair (.sl 5 (.int .u8)) (.pair (.int .i64) (.pair (.int .i64) .unit)))
abbrev Ty35:Ty:=(.ptr 121 (.pair (.int .i64) (.pair .bool (.pair (.int .i64) .unit))))
abbrev It36:Type:=((List ((List (Int))×(List (Int))×Unit))×(List (Int))×It2)×(Int)×Unit
abbrev Ty37:Ty:=(.pair (.int .i64) (.pair (.int .i64) (.pair .bool (.pair (.int .u8) .unit))))
abbrev Ty38:Ty:=(.sl 70 (.pair (.int .i64) (.pair (.int .i64) (.pair (.int .i64) .unit))))
abbrev Ty39:Ty:=(.pair (.int .i64) (.pair (.int .i64) (.pair Ty38 (.pair (.int .i64) .unit))))
abbrev Ty40:Ty:=(.sl 72 (.pair (.int .i64) (.pair (.int .i64) (.pair (.int .i64) .unit))))
abbrev Ty41:Ty:=(.pair (.sl 67 (.pair (.int .i64) (.pair (.int .i64) Ty39))) (.pair Ty40 (.pair (.int .i64) .unit)))
abbrev Ty42:Ty:=(.pair (.pair (.sl 3 (.int .i64)) (.pair (.sl 3 (.int .i64)) .unit)) (.pair (.sl 3 (.int .i64)) Ty41))
abbrev Ty43:Ty:=(.pair (.sl 28 (.sl 3 (.int .i64))) (.pair (.sl 3 (.int .i64)) (.pair (.int .i64) .unit)))
abbrev Ty44:Ty:=(.pair (.sl 45 (.pair (.int .i64) (.pair (.int .i64) Ty0))) (.pair (.int .i64) Ty43))
abbrev Ty45:Ty:=(.pair (.sl 225 (.pair (.int .i64) (.pair (.int .i64) .unit))) (.pair (.int .i64) (.pair .bool (.pair .bool .unit))))
abbrev Ty46:Ty:=(.pair (.pair (.sl 3 (.int .i64)) (.pair (.sl 3 (.int .i64)) .unit)) (.pair (.int .i64) (.pair (.int .i64) Ty45)))
abbrev Ty47:Ty:=(.pair Ty42 (.pair (.sl 103 (.pair (.int .i64) Ty46)) (.pair (.int .i64) .unit)))
abbrev Ty48:Ty:=(.pair (.int .i64) (.pair (.int .i64) (.pair (.int .i64) (.pair (.int .i64) .unit))))
noncomputable abbrev a0 (x:((.int .i64):Ty).I):SV := .v (.int .i64) .s x
noncomputable abbrev A0:=sV (.int .i64) .s
noncomputable abbrev a1 (x:((.sl 3 (.int .i64)):Ty).I):SV := .v (.sl 3 (.int .i64)) (.o .s) x
noncomputable abbrev a2 (x:(.bool:Ty).I):SV := .v .bool .s x
noncomputable abbrev a3 (x:((.sl 5 (.int .u8)):Ty).I):SV := .v (.sl 5 (.int .u8)) (.o .s) x
noncomputable abbrev A1:=sV (.sl 5 (.int .u8)) (.o .s)
noncomputable abbrev a4 (x:((.sl 3 (.int .i64)):Ty).I):SV := .v (.sl 3 (.int .i64)) .s x
noncomputable abbrev A2:=sV (.sl 3 (.int .i64)) .s
noncomputable abbrev a5 (x:((.ptr 0 (.pair (.sl 4 .bool) .unit)):Ty).I):SV := .v (.ptr 0 (.pair (.sl 4 .bool) .unit)) (.o (.p (.o .s) .s)) x
noncomputable abbrev B0:=sP 0 (.pair (.sl 4 .bool) .unit) (.o (.p (.o .s) .s))
noncomputable abbrev a6 (x:((.ptr 45 (.pair (.int .i64) (.pair (.int .i64) Ty0))):Ty).I):SV := .v (.ptr 45 (.pair (.int .i64) (.pair (.int .i64) Ty0))) .s x
noncomputable abbrev B1:=sP 45 (.pair (.int .i64) (.pair (.int .i64) Ty0)) .s
noncomputable abbrev a7 (x:((.sl 45 (.pair (.int .i64) (.pair (.int .i64) Ty0))):Ty).I):SV := .v (.sl 45 (.pair (.int .i64) (.pair (.int .i64) Ty0))) .s x
noncomputable abbrev a8 (x:((.ptr 152 (.pair (.sl 4 .bool) .unit)):Ty).I):SV := .v (.ptr 152 (.pair (.sl 4 .bool) .unit)) (.o (.p (.o .s) .s)) x
noncomputable abbrev A3:=sV (.sl 45 (.pair (.int .i64) (.pair (.int .i64) Ty0))) .s
noncomputable abbrev B2:=sP 152 (.pair (.sl 4 .bool) .unit) (.o (.p (.o .s) .s))
noncomputable abbrev a9 (x:((.sl 28 (.sl 3 (.int .i64))):Ty).I):SV := .v (.sl 28 (.sl 3 (.int .i64))) .s x
noncomputable abbrev A4:=sV (.sl 28 (.sl 3 (.int .i64))) .s
noncomputable abbrev A5:=sV (.sl 3 (.int .i64)) (.o .s)
noncomputable abbrev a10 (x:((.ptr 0 (.pair (.pair Ty5 Ty9) (.pair (.sl 3 (.int .i64)) Ty11))):Ty).I):SV := .v (.ptr 0 (.pair (.pair Ty5 Ty9) (.pair (.sl 3 (.int .i64)) Ty11))) (.o (.p .s (.p (.o .s) (.p (.o .s) (.p (.o .s) .s))))) x
noncomputable abbrev B3:=sP 0 (.pair (.pair Ty5 Ty9) (.pair (.sl 3 (.int .i64)) Ty11)) (.o (.p .s (.p (.o .s) (.p (.o .s) (.p (.o .s) .s)))))
noncomputable abbrev a11 (x:(Ty12:Ty).I):SV := .v Ty12 .s x
noncomputable abbrev B4:=sP 51 (.pair (.sl 3 (.int .i64)) (.pair (.sl 3 (.int .i64)) .unit)) .s
noncomputable abbrev a12 (x:((.ptr 158 (.pair (.int .i64) Ty10)):Ty).I):SV := .v (.ptr 158 (.pair (.int .i64) Ty10)) .s x
noncomputable abbrev B5:=sP 158 (.pair (.int .i64) Ty10) .s
noncomputable abbrev a13 (x:((.ptr 46 (.int .i64)):Ty).I):SV := .v (.ptr 46 (.int .i64)) (.o .s) x
noncomputable abbrev a14 (x:((.ptr 88 (.pair (.pair Ty5 Ty9) (.pair (.sl 3 (.int .i64)) Ty11))):Ty).I):SV := .v (.ptr 88 (.pair (.pair Ty5 Ty9) (.pair (.sl 3 (.int .i64)) Ty11))) (.o (.p .s (.p (.o .s) (.p (.o .s) (.p (.o .s) .s))))) x
noncomputable abbrev B6:=sP 46 (.int .i64) (.o .s)
noncomputable abbrev B7:=sP 88 (.pair (.pair Ty5 Ty9) (.pair (.sl 3 (.int .i64)) Ty11)) (.o (.p .s (.p (.o .s) (.p (.o .s) (.p (.o .s) .s)))))
noncomputable abbrev a15 (x:((.ptr 33 Ty32):Ty).I):SV := .v (.ptr 33 Ty32) .s x
noncomputable abbrev B8:=sP 33 Ty32 .s
noncomputable abbrev A6:=sV Ty5 .s
noncomputable abbrev A7:=sV (.sl 123 Ty23) .s
noncomputable abbrev A8:=sV (.sl 42 (.pair (.int .i64) Ty14)) .s
noncomputable abbrev A9:=sV (.sl 126 (.pair (.int .i64) Ty24)) .s
noncomputable abbrev A10:=sV (.sl 128 (.pair .str (.pair (.int .i64) (.pair (.int .i64) .unit)))) .s
noncomputable abbrev A11:=sV (.sl 130 (.pair (.int .i64) Ty25)) .s
noncomputable abbrev A12:=sV (.sl 133 (.pair (.int .i64) Ty26)) .s
noncomputable abbrev A13:=sV (.sl 135 (.pair .str (.pair (.sl 5 (.int .u8)) .unit))) .s
noncomputable abbrev A14:=sV (.sl 28 (.sl 3 (.int .i64))) (.o .s)
noncomputable abbrev B9:=sP 176 (.pair (.int .i64) Ty33) (.o .s)
noncomputable abbrev A15:=sV (.sl 176 (.pair (.int .i64) Ty33)) (.o .s)
noncomputable abbrev A16:=sV (.int .u64) .s
noncomputable abbrev A17:=sV (.sl 258 (.arr 2 (.int .i64))) (.o .s)
noncomputable abbrev a30 (x:((.sl 5 (.int .u8)):Ty).I):SV := .v (.sl 5 (.int .u8)) .s x
noncomputable abbrev A18:=sV (.sl 5 (.int .u8)) .s
noncomputable abbrev A19:=sV (.sl 4 .bool) (.o .s)
noncomputable abbrev A20:=sV .str .s
noncomputable abbrev B10:=sP 45 (.pair (.int .i64) (.pair (.int .i64) Ty0)) (.o (.p .s (.p .s (.p .s (.p .s (.p (.o .s) .s))))))
noncomputable abbrev a33 (x:((.sl 45 (.pair (.int .i64) (.pair (.int .i64) Ty0))):Ty).I):SV := .v (.sl 45 (.pair (.int .i64) (.pair (.int .i64) Ty0))) (.o .s) x
noncomputable abbrev A21:=sV (.sl 45 (.pair (.int .i64) (.pair (.int .i64) Ty0))) (.o .s)
noncomputable abbrev A22:=sV .bool .s
noncomputable abbrev A23:=sV (.sl 121 (.pair (.int .i64) (.pair .bool (.pair (.int .i64) .unit)))) (.o .s)
noncomputable abbrev B11:=sP 130 (.pair (.int .i64) Ty25) .s
noncomputable abbrev a36 (x:((.ptr 42 (.pair (.int .i64) Ty14)):Ty).I):SV := .v (.ptr 42 (.pair (.int .i64) Ty14)) .s x
noncomputable abbrev B12:=sP 42 (.pair (.int .i64) Ty14) .s
noncomputable abbrev B13:=sP 123 Ty23 .s
noncomputable abbrev B14:=sP 133 (.pair (.int .i64) Ty26) .s
noncomputable abbrev A24:=sV (.sl 186 (.pair (.int .i64) (.pair (.sl 5 (.int .u8)) .unit))) .s
noncomputable abbrev A25:=sV (.sl 186 (.pair (.int .i64) (.pair (.sl 5 (.int .u8)) .unit))) (.o .s)
noncomputable abbrev B15:=sP 0 Ty34 (.o .s)
noncomputable abbrev a42 (x:(Ty35:Ty).I):SV := .v Ty35 (.o .s) x
noncomputable abbrev a43 (x:((.ptr 258 (.arr 2 (.int .i64))):Ty).I):SV := .v (.ptr 258 (.arr 2 (.int .i64))) (.o .s) x
noncomputable abbrev B16:=sP 121 (.pair (.int .i64) (.pair .bool (.pair (.int .i64) .unit))) (.o .s)
noncomputable abbrev B17:=sP 258 (.arr 2 (.int .i64)) (.o .s)
noncomputable abbrev B18:=sP 130 (.pair (.int .i64) Ty25) (.o (.p .s (.p (.o .s) (.p (.o .s) .s))))
noncomputable abbrev a46 (x:((.ptr 0 Ty32):Ty).I):SV := .v (.ptr 0 Ty32) (.o (.p (.o .s) (.p (.o .s) (.p (.o (.p .s (.p (.o .s) (.p (.o .s) .s)))) (.p (.o .s) (.p (.o .s) (.p (.o .s) (.p (.o .s) (.p (.o .s) (.p (.o .s) (.p (.o .s) (.p (.o .s) (.p (.o .s) .s))))))))))))) x
noncomputable abbrev B19:=sP 123 Ty23 (.o .s)
noncomputable abbrev B20:=sP 0 Ty32 (.o (.p (.o .s) (.p (.o .s) (.p (.o (.p .s (.p (.o .s) (.p (.o .s) .s)))) (.p (.o .s) (.p (.o .s) (.p (.o .s) (.p (.o .s) (.p (.o .s) (.p (.o .s) (.p (.o .s) (.p (.o .s) (.p (.o .s) .s)))))))))))))
noncomputable abbrev B21:=sP 133 (.pair (.int .i64) Ty26) (.o (.p .s (.p (.o .s) (.p (.o .s) .s))))
noncomputable abbrev a48 (x:((.ptr 248 Ty34):Ty).I):SV := .v (.ptr 248 Ty34) (.o .s) x
noncomputable abbrev B22:=sP 248 Ty34 (.o .s)
noncomputable abbrev B23:=sP 33 Ty32 (.o (.p (.o .s) (.p (.o .s) (.p (.o (.p .s (.p (.o .s) (.p (.o .s) .s)))) (.p (.o .s) (.p (.o .s) (.p (.o .s) (.p (.o .s) (.p (.o .s) (.p (.o .s) (.p (.o .s) (.p (.o .s) (.p (.o .s) .s)))))))))))))
noncomputable abbrev B24:=sP 191 (.arr 13 .bool) (.o .s)
noncomputable abbrev a51 (x:((.ptr 0 (.pair (.pair Ty5 Ty9) (.pair (.int .i64) .unit))):Ty).I):SV := .v (.ptr 0 (.pair (.pair Ty5 Ty9) (.pair (.int .i64) .unit))) (.o (.p (.p (.o .s) (.p (.o .s) (.p (.o .s) (.p (.o .s) (.p (.o .s) .s))))) .s)) x
noncomputable abbrev B25:=sP 0 (.pair (.pair Ty5 Ty9) (.pair (.int .i64) .unit)) (.o (.p (.p (.o .s) (.p (.o .s) (.p (.o .s) (.p (.o .s) (.p (.o .s) .s))))) .s))
noncomputable abbrev a52 (x:(Ty35:Ty).I):SV := .v Ty35 .s x
noncomputable abbrev a53 (x:((.sl 121 (.pair (.int .i64) (.pair .bool (.pair (.int .i64) .unit)))):Ty).I):SV := .v (.sl 121 (.pair (.int .i64) (.pair .bool (.pair (.int .i64) .unit)))) .s x
noncomputable abbrev B26:=sP 121 (.pair (.int .i64) (.pair .bool (.pair (.int .i64) .unit))) .s
noncomputable abbrev A26:=sV (.sl 121 (.pair (.int .i64) (.pair .bool (.pair (.int .i64) .unit)))) .s
noncomputable abbrev B27:=sP 126 (.pair (.int .i64) Ty24) .s
noncomputable abbrev B28:=sP 128 (.pair .str (.pair (.int .i64) (.pair (.int .i64) .unit))) (.o .s)
noncomputable abbrev B29:=sP 37 (.pair Ty5 Ty9) (.o (.p (.o .s) (.p (.o .s) (.p (.o .s) (.p (.o .s) (.p (.o .s) .s))))))
noncomputable abbrev B30:=sP 143 (.pair (.pair Ty5 Ty9) (.pair (.int .i64) .unit)) (.o (.p (.p (.o .s) (.p (.o .s) (.p (.o .s) (.p (.o .s) (.p (.o .s) .s))))) .s))
noncomputable abbrev a58 (x:((.ptr 37 (.pair Ty5 Ty9)):Ty).I):SV := .v (.ptr 37 (.pair Ty5 Ty9)) .s x
noncomputable abbrev B31:=sP 37 (.pair Ty5 Ty9) .s
noncomputable abbrev a59 (x:((.ptr 37 (.pair Ty5 Ty9)):Ty).I):SV := .v (.ptr 37 (.pair Ty5 Ty9)) (.o .s) x
noncomputable abbrev B32:=sP 37 (.pair Ty5 Ty9) (.o .s)
noncomputable abbrev a60 (x:((.ptr 37 (.pair Ty5 Ty9)):Ty).I):SV := .v (.ptr 37 (.pair Ty5 Ty9)) (.o (.p (.o .s) .s)) x
noncomputable abbrev B33:=sP 37 (.pair Ty5 Ty9) (.o (.p (.o .s) .s))
noncomputable abbrev a61 (x:((.ptr 37 (.pair Ty5 Ty9)):Ty).I):SV := .v (.ptr 37 (.pair Ty5 Ty9)) (.o (.p (.o .s) (.p (.o .s) .s))) x
noncomputable def envTy:TypeId→Option Ty
 |2=>some (.int .i64)
 |3=>some (.int .i64)
 |4=>some .bool
 |5=>some (.int .u8)
 |6=>some (.int .u8)
 |7=>some Ty37
 |8=>some Ty37
 |9=>some .str
 |10=>some .str
 |11=>some .str
 |12=>some (.int .u64)
 |13=>some (.pair .str (.pair (.int .u64) .unit))
 |14=>some (.pair .str (.pair (.int .u64) .unit))
 |21=>some (.int .i32)
 |22=>some Ty5
 |23=>some (.sl 123 Ty23)
 |24=>some (.sl 42 (.pair (.int .i64) Ty14))
 |25=>some (.sl 121 (.pair (.int .i64) (.pair .bool (.pair (.int .i64) .unit))))
 |26=>some (.sl 126 (.pair (.int .i64) Ty24))
 |27=>some (.sl 128 (.pair .str (.pair (.int .i64) (.pair (.int .i64) .unit))))
 |28=>some (.sl 3 (.int .i64))
 |29=>some (.sl 130 (.pair (.int .i64) Ty25))
 |30=>some (.sl 133 (.pair (.int .i64) Ty26))
 |31=>some (.sl 135 (.pair .str (.pair (.sl 5 (.int .u8)) .unit)))
 |32=>some Ty32
 |33=>some Ty32
 |35=>some (.sl 54 (.pair (.int .i64) (.pair .bool .unit)))
 |36=>some (.pair Ty5 Ty9)
 |37=>some (.pair Ty5 Ty9)
 |40=>some (.sl 45 (.pair (.int .i64) (.pair (.int .i64) Ty0)))
 |41=>some (.pair (.int .i64) Ty14)
 |42=>some (.pair (.int .i64) Ty14)
 |44=>some (.pair (.int .i64) (.pair (.int .i64) Ty0))
 |45=>some (.pair (.int .i64) (.pair (.int .i64) Ty0))
 |46=>some (.int .i64)
 |50=>some (.pair (.sl 3 (.int .i64)) (.pair (.sl 3 (.int .i64)) .unit))
 |51=>some (.pair (.sl 3 (.int .i64)) (.pair (.sl 3 (.int .i64)) .unit))
 |53=>some (.pair (.int .i64) (.pair .bool .unit))
 |54=>some (.pair (.int .i64) (.pair .bool .unit))
 |59=>some (.sl 67 (.pair (.int .i64) (.pair (.int .i64) Ty39)))
 |60=>some Ty40
 |61=>some Ty42
 |62=>some Ty42
 |65=>some Ty38
 |66=>some (.pair (.int .i64) (.pair (.int .i64) Ty39))
 |67=>some (.pair (.int .i64) (.pair (.int .i64) Ty39))
 |69=>some (.pair (.int .i64) (.pair (.int .i64) (.pair (.int .i64) .unit)))
 |70=>some (.pair (.int .i64) (.pair (.int .i64) (.pair (.int .i64) .unit)))
 |71=>some (.pair (.int .i64) (.pair (.int .i64) (.pair (.int .i64) .unit)))
 |72=>some (.pair (.int .i64) (.pair (.int .i64) (.pair (.int .i64) .unit)))
 |76=>some (.sl 62 Ty42)
 |84=>some (.ptr 88 (.pair (.pair Ty5 Ty9) (.pair (.sl 3 (.int .i64)) Ty11)))
 |86=>some (.sl 158 (.pair (.int .i64) Ty10))
 |87=>some (.pair (.pair Ty5 Ty9) (.pair (.sl 3 (.int .i64)) Ty11))
 |88=>some (.pair (.pair Ty5 Ty9) (.pair (.sl 3 (.int .i64)) Ty11))
 |91=>some (.ptr 94 (.pair (.pair Ty5 Ty9) (.pair (.sl 3 (.int .i64)) Ty44)))
 |92=>some (.sl 28 (.sl 3 (.int .i64)))
 |93=>some (.pair (.pair Ty5 Ty9) (.pair (.sl 3 (.int .i64)) Ty44))
 |94=>some (.pair (.pair Ty5 Ty9) (.pair (.sl 3 (.int .i64)) Ty44))
 |97=>some (.ptr 100 (.pair (.pair Ty5 Ty9) Ty47))
 |98=>some (.sl 103 (.pair (.int .i64) Ty46))
 |99=>some (.pair (.pair Ty5 Ty9) Ty47)
 |100=>some (.pair (.pair Ty5 Ty9) Ty47)
 |101=>some (.sl 225 (.pair (.int .i64) (.pair (.int .i64) .unit)))
 |102=>some (.pair (.int .i64) Ty46)
 |103=>some (.pair (.int .i64) Ty46)
 |112=>some (.sl 115 (.pair .bool (.pair (.int .i64) Ty48)))
 |114=>some (.pair .bool (.pair (.int .i64) Ty48))
 |115=>some (.pair .bool (.pair (.int .i64) Ty48))
 |120=>some (.pair (.int .i64) (.pair .bool (.pair (.int .i64) .unit)))
 |121=>some (.pair (.int .i64) (.pair .bool (.pair (.int .i64) .unit)))
 |122=>some Ty23
 |123=>some Ty23
 |125=>some (.pair (.int .i64) Ty24)
 |126=>some (.pair (.int .i64) Ty24)
 |127=>some (.pair .str (.pair (.int .i64) (.pair (.int .i64) .unit)))
 |128=>some (.pair .str (.pair (.int .i64) (.pair (.int .i64) .unit)))
 |129=>some (.pair (.int .i64) Ty25)
 |130=>some (.pair (.int .i64) Ty25)
 |131=>some (.sl 5 (.int .u8))
 |132=>some (.pair (.int .i64) Ty26)
 |133=>some (.pair (.int .i64) Ty26)
 |134=>some (.pair .str (.pair (.sl 5 (.int .u8)) .unit))
 |135=>some (.pair .str (.pair (.sl 5 (.int .u8)) .unit))
 |141=>some (.ptr 143 (.pair (.pair Ty5 Ty9) (.pair (.int .i64) .unit)))
 |142=>some (.pair (.pair Ty5 Ty9) (.pair (.int .i64) .unit))
 |143=>some (.pair (.pair Ty5 Ty9) (.pair (.int .i64) .unit))
 |150=>some (.sl 4 .bool)
 |151=>some (.pair (.sl 4 .bool) .unit)
 |152=>some (.pair (.sl 4 .bool) .unit)
 |157=>some (.pair (.int .i64) Ty10)
 |158=>some (.pair (.int .i64) Ty10)
 |165=>some (.ptr 167 (.pair (.sl 3 (.int .i64)) (.pair .bool .unit)))
 |166=>some (.pair (.sl 3 (.int .i64)) (.pair .bool .unit))
 |167=>some (.pair (.sl 3 (.int .i64)) (.pair .bool .unit))
 |171=>some (.ptr 103 (.pair (.int .i64) Ty46))
 |175=>some (.pair (.int .i64) Ty33)
 |176=>some (.pair (.int .i64) Ty33)
 |182=>some (.sl 186 (.pair (.int .i64) (.pair (.sl 5 (.int .u8)) .unit)))
 |185=>some (.pair (.int .i64) (.pair (.sl 5 (.int .u8)) .unit))
 |186=>some (.pair (.int .i64) (.pair (.sl 5 (.int .u8)) .unit))
 |191=>some (.arr 13 .bool)
 |195=>some (.ptr 33 Ty32)
 |207=>some (.ptr 152 (.pair (.sl 4 .bool) .unit))
 |211=>some (.int .u64)
 |224=>some (.pair (.int .i64) (.pair (.int .i64) .unit))
 |225=>some (.pair (.int .i64) (.pair (.int .i64) .unit))
 |228=>some (.sl 176 (.pair (.int .i64) Ty33))
 |229=>some (.arr 13 (.int .i64))
 |240=>some (.int .u64)
 |246=>some (.ptr 248 Ty34)
 |247=>some Ty34
 |248=>some Ty34
 |250=>some (.ptr 42 (.pair (.int .i64) Ty14))
 |256=>some (.ptr 158 (.pair (.int .i64) Ty10))
 |258=>some (.arr 2 (.int .i64))
 |259=>some (.sl 258 (.arr 2 (.int .i64)))
 |292=>some (.arr 5 (.int .i64))
 |304=>some (.int .u32)
 |305=>some (.int .u8)
 |306=>some (.int .u8)
 |308=>some (.ptr 5 (.int .u8))
 |309=>some (.int .i32)
 |310=>some (.int .i32)
 |_=>none
noncomputable def envEq:TypeId→Bool
 |54=>true
 |121=>true
 |123=>true
 |128=>true
 |_=>false
noncomputable def noG:FuncId→List FuncId→Option CSpec:=fun _ _=>none
theorem envTyOk:EnvTy Tryz.prog { ty:=envTy,gam:=fun _ _=>none,n:=0,eq:=envEq }:=by
 refine ⟨fun T t h=>?_,fun T t h1 h2=>?_⟩
 ·unfold envTy at h;simp only at h;split at h<;>first|(cases h; done)|(simp only[Option.some.injEq]at h; subst h; kernel_rfl)
 ·unfold envEq at h1;simp only at h1
  first|(cases h1; done)|(split at h1<;>first|(cases h1; done)|(simp only[envTy,Option.some.injEq]at h2; subst h2; kernel_rfl))
theorem mixed:Tryz.prog.follows .mixedOrders=true:=by kernel_rfl
noncomputable def body (o:Option Code):Code:=match o with|some c=>c|none => .skip
noncomputable def lp0:Loops:=fun _ _ _ _ _=>none
noncomputable def zVPa (id:Nat):Code→Option Code
 | .loop c=>match zcua c with
  |some i=>match Nat.beq i id with
   |true=>some c
   |false=>zVPa id c
  |none=>zVPa id c
 | .seq a b=>match zVPa id a with
  |some c=>some c
  |none=>zVPa id b
 | .cond _ a b=>match zVPa id a with
  |some c=>some c
  |none=>zVPa id b
 | .block _ c=>zVPa id c
 | .scope c=>zVPa id c
 |_=>none
noncomputable def joinC (id:Nat):Code→Option Code
 | .seq a b=>match zcua b with
  |some i=>match Nat.beq i id with
   |true=>some a
   |false=>match joinC id a with
    |some c=>some c
    |none=>joinC id b
  |none=>match joinC id a with
   |some c=>some c
   |none=>joinC id b
 | .cond _ a b=>match joinC id a with
  |some c=>some c
  |none=>joinC id b
 | .block _ c=>joinC id c
 | .scope c=>joinC id c
 | .loop c=>joinC id c
 |_=>none
noncomputable def lcOf (id:Nat) (c:Code):Code:=match zVPa id c with|some c=>c|none => .skip
noncomputable def jcOf (id:Nat) (c:Code):Code:=match joinC id c with|some c=>c|none => .skip
noncomputable abbrev E0:Env:={ ty:=envTy,eq:=envEq,gam:=noG,n:=0 }
noncomputable abbrev mE (l:List (GE Tryz.prog)) (f:Func):Env:={ E0 with gam:=gl l,n:=f.ntmps }
abbrev LOk (env:Env) (lp:Loops) (inl:Inl) (i:Nat) (f:Func):Prop:=zCTa env lp inl (lcOf i (body f.body))
abbrev JOk (env:Env) (lp:Loops) (inl:Inl) (i:Nat) (f:Func):Prop:=zDTa env lp inl (jcOf i (body f.body)) i
noncomputable def zAOa:Env:={ E0 with n:=Tryz.f85.ntmps }
noncomputable def zbya (a0:Int) (K:Int→Int→Bool→Bool→Bool→Option R):Option R :=
 cond (a0==40)
 (K 127 4 false false true)
 (cond (a0==41)
 (K 126 8 false false true)
 (cond (a0==44)
 (K 127 1 (a0==44) false true)
 (cond (a0==45)
 (K 127 1 (a0==44) false true)
 (cond (a0==46)
 (K 127 2 (a0==46) false true)
 (cond (a0==47)
 (K 127 2 (a0==46) false true)
 (cond (a0==48)
 (K 126 1 (a0==48) false true)
 (cond (a0==49)
 (K 126 1 (a0==48) false true)
 (cond (a0==50)
 (K 126 2 (a0==50) false true)
 (cond (a0==51)
 (K 126 2 (a0==50) false true)
 (cond (a0==52)
 (K 126 4 (a0==52) false true)
 (cond (a0==53)
 (K 126 4 (a0==52) false true)
 (cond (a0==54)
 (K 127 4 false true true)
 (cond (a0==55)
 (K 126 8 false true true)
 (cond (a0==58)
 (K 127 1 false true true)
 (cond (a0==59)
 (K 127 2 false true true)
 (cond (a0==60)
 (K 126 1 false true true)
 (cond (a0==61)
 (K 126 2 false true true)
 (cond (a0==62)
 (K 126 4 false true true)
 (K 0 0 false false false)))))))))))))))))))
noncomputable def zuFa:CSpec:={ ins:=[(.val (.int .i64) .s)],outs:=[((.int .i64),.s),((.int .i64),.s),(.bool,.s),(.bool,.s),(.bool,.s)],fn:=fun d K _=>zbya d.1 (fun r0 r1 r2 r3 r4=>K (r0,r1,r2,r3,r4,()) ()) }
theorem zCSa:Holds Tryz.prog 85 zuFa:=hw zAOa [(2,none),(3,none),(4,none),(5,none),(6,none)] (lp:=lp0) (code:=body Tryz.f85.body) zfaa Tryz.func85 l0 ⟨mixed,envTyOk.ty,envTyOk.eq⟩
noncomputable def zSSa:GE Tryz.prog:=⟨85,[],zuFa,zCSa⟩
noncomputable def zBOa:Env:=mE [zSSa] Tryz.f40
noncomputable def zBea (a0:Int) (K:Int→Int→Bool→Bool→Option R):Option R :=
 zbya a0 fun r1 r2 r3 r4 r5 =>
 K r1 r2 r4 r5
noncomputable def zvFa:CSpec:={ ins:=[(.val (.int .i64) .s)],outs:=[((.int .i64),.s),((.int .i64),.s),(.bool,.s),(.bool,.s)],fn:=fun d K _=>zBea d.1 (fun r0 r1 r2 r3=>K (r0,r1,r2,r3,()) ()) }
theorem zDSa:Holds Tryz.prog 40 zvFa:=hw zBOa [(2,none),(3,none),(4,none),(5,none)] (lp:=lp0) (code:=body Tryz.f40.body) zfaa Tryz.func40 l0 ⟨mixed,envTyOk.ty,envTyOk.eq⟩
noncomputable def zJHa:GE Tryz.prog:=⟨40,[],zvFa,zDSa⟩
noncomputable def ztUa:Nat→Bool
 |22=>true
 |_=>false
noncomputable def zoUa:Nat→Option (List Nat)
 |0|1|2|3|4|6|7|9|10|12|13|15|16|18|20=>some [0]
 |5|8|11|14|17|19|21|22=>some []
 |_=>none
noncomputable def zfza:Env:={ E0 with n:=Tryz.f44.ntmps,js:=ztUa,lv:=zoUa }
structure Y_num_Types_22 where (f0:Int)
noncomputable def zvwa (k_ret:Tl→Int→Bool→Option R) (k_normal:Option R) (x:Y_num_Types_22):Option R :=
 cond (x.f0==69)
 (k_ret (List.set (List.replicate 1 (0:Int)) 0 127) 127 true)
 (let k1:Option R:=(cond (x.f0==192)
 (k_ret (List.set (List.replicate 1 (0:Int)) 0 127) 127 true)
 (cond (x.f0==193)
 (k_ret (List.set (List.replicate 1 (0:Int)) 0 127) 127 true)
 (cond (x.f0==80)
 (k_ret (List.set (List.replicate 1 (0:Int)) 0 126) 127 true)
 (cond (x.f0==167)
 (k_ret (List.set (List.replicate 1 (0:Int)) 0 126) 127 true)
 (let k2:Option R:=(let k3:Option R:=(cond (x.f0==172)
 (k_ret (List.set (List.replicate 1 (0:Int)) 0 127) 126 true)
 (cond (x.f0==173)
 (k_ret (List.set (List.replicate 1 (0:Int)) 0 127) 126 true)
 (let k4:Option R:=(let k5:Option R:=(let k6:Option R:=(cond (decide (x.f0≥124))
 (cond (decide (x.f0≤138))
 (k_ret (List.set (List.set (List.replicate 2 (0:Int)) 0 126) 1 126) 126 true)
 (k_normal))
 (k_normal))
 cond (decide (x.f0≥81))
 (cond (decide (x.f0≤90))
 (k_ret (List.set (List.set (List.replicate 2 (0:Int)) 0 126) 1 126) 127 true)
 (k6))
 (k6))
 cond (decide (x.f0≥106))
 (cond (decide (x.f0≤120))
 (k_ret (List.set (List.set (List.replicate 2 (0:Int)) 0 127) 1 127) 127 true)
 (k5))
 (k5))
 cond (decide (x.f0≥70))
 (cond (decide (x.f0≤79))
 (k_ret (List.set (List.set (List.replicate 2 (0:Int)) 0 127) 1 127) 127 true)
 (k4))
 (k4))))
 cond (decide (x.f0≥194))
 (cond (decide (x.f0≤196))
 (k_ret (List.set (List.replicate 1 (0:Int)) 0 126) 126 true)
 (k3))
 (k3))
 cond (decide (x.f0≥121))
 (cond (decide (x.f0≤123))
 (k_ret (List.set (List.replicate 1 (0:Int)) 0 126) 126 true)
 (k2))
 (k2))))))
 cond (decide (x.f0≥103))
 (cond (decide (x.f0≤105))
 (k_ret (List.set (List.replicate 1 (0:Int)) 0 127) 127 true)
 (k1))
 (k1))
noncomputable def zyoa:LB:=⟨[.d 0 A0],[(.ret,[.d 2 A5,.d 3 A0,.d 4 A22]),(.normal,[])]⟩
noncomputable def zTBa:JF Y_num_Types_22:=fun _ K=>zvwa (exS zyoa 0 K) (exS zyoa 1 K)
noncomputable def ztLa:Loops:=fun z i R st K=>match z,i with
 |true,22=>jpS zyoa Y_num_Types_22.mk zTBa K st
 |_,_=>none
theorem zULa:JOk zfza ztLa inl0 22 Tryz.f44:=jok zyoa Y_num_Types_22.mk (fun x=>(x.f0,())) zTBa 22
theorem zbOa:zsaa zfza ztLa inl0 (body Tryz.f44.body):=lsL .nil (.cons zULa .nil)
noncomputable def zpea (a0:Int) (K:Tl→Int→Bool→Option R):Option R :=
 zvwa (fun w1 w2 w3 =>
 K w1 w2 w3) (K [] 0 false) ⟨a0⟩
noncomputable def zTMa:CSpec:={ ins:=[(.val (.int .i64) .s)],outs:=[((.sl 3 (.int .i64)),(.o .s)),((.int .i64),.s),(.bool,.s)],fn:=fun d K _=>zpea d.1 (fun r0 r1 r2=>K (r0,r1,r2,()) ()) }
theorem zIWa:Holds Tryz.prog 44 zTMa:=hw zfza [(2,none),(3,none),(4,none)] zfaa Tryz.func44 zbOa ⟨mixed,envTyOk.ty,envTyOk.eq⟩
noncomputable def zUOa:GE Tryz.prog:=⟨44,[],zTMa,zIWa⟩
noncomputable def zXJa:Env:={ E0 with n:=Tryz.f158.ntmps }
noncomputable def zada (a0 a1 a2:Int) (K:Bool→Option R):Option R :=
 cond (decide (a0≥a1))
 (K (decide (a0≤a2)))
 (K false)
noncomputable def zmza:CSpec:={ ins:=[(.val (.int .i64) .s),(.val (.int .i64) .s),(.val (.int .i64) .s)],outs:=[(.bool,.s)],fn:=fun d K _=>zada d.1 d.2.1 d.2.2.1 (fun r0=>K (r0,()) ()) }
theorem ziOa:Holds Tryz.prog 158 zmza:=hw zXJa [(6,none)] (lp:=lp0) (code:=body Tryz.f158.body) zfaa Tryz.func158 l0 ⟨mixed,envTyOk.ty,envTyOk.eq⟩
noncomputable def zkOa:GE Tryz.prog:=⟨158,[],zmza,ziOa⟩
noncomputable def zfSa:Nat→Option (List Nat)
 |0|1|60|63|66=>some [0]
 |2|3|4|5|6|7|8|10|11|12|14|15|16|17|18|19|20|21|22|23|25|27|28|29|31|32|33|35|37|39|41|43|44|45|46|47|48|49|50|51|52|53|54|55|56|57|58=>some [0,10]
 |9|13|24|26|30|34|36|38|40|42|59|62|65|67|68=>some []
 |61=>some [0,6]
 |64=>some [0,9]
 |_=>none
noncomputable def zgRa:Env:={ mE [zJHa,zUOa,zkOa] Tryz.f106 with lv:=zfSa }
noncomputable def zmva (a0:Int) (K:Int→Option R):Option R :=
 cond (a0==0)
 (K 1)
 (cond (a0==1)
 (K 1)
 (cond (a0==5)
 (K 1)
 (cond (a0==11)
 (K 1)
 (cond (a0==15)
 (K 1)
 (cond (a0==26)
 (K 1)
 (cond (a0==27)
 (K 1)
 (cond (a0==2)
 (K 2)
 (cond (a0==3)
 (K 2)
 (cond (a0==4)
 (K 2)
 (cond (a0==12)
 (K 3)
 (cond (a0==13)
 (K 3)
 (cond (a0==16)
 (K 3)
 (cond (a0==32)
 (K 3)
 (cond (a0==33)
 (K 3)
 (cond (a0==34)
 (K 3)
 (cond (a0==35)
 (K 3)
 (cond (a0==36)
 (K 3)
 (cond (a0==265)
 (K 3)
 (cond (a0==269)
 (K 3)
 (cond (a0==14)
 (K 4)
 (cond (a0==17)
 (K 5)
 (cond (a0==268)
 (K 5)
 (cond (a0==270)
 (K 5)
 (cond (a0==63)
 (K 6)
 (cond (a0==64)
 (K 6)
 (cond (a0==267)
 (K 6)
 (cond (a0==266)
 (K 7)
 (cond (a0==65)
 (K 8)
 (cond (a0==66)
 (K 9)
 (cond (a0==264)
 (K 10)
 (cond (a0==28)
 (K 11)
 (cond (a0==37)
 (K 11)
 (cond (a0==38)
 (K 11)
 (cond (a0==42)
 (K 11)
 (cond (a0==43)
 (K 11)
 (cond (a0==56)
 (K 11)
 (cond (a0==57)
 (K 11)
 (cond (a0==67)
 (K 11)
 (cond (a0==68)
 (K 11)
 (cond (a0==208)
 (K 11)
 (cond (a0==209)
 (K 11)
 (cond (a0==210)
 (K 11)
 (cond (a0==253)
 (K 11)
 (cond (a0==271)
 (K 11)
 (cond (a0==272)
 (K 11)
 (cond (a0==273)
 (K 11)
 (zBea a0 fun r48 r49 r50 r51 =>
 cond r51
 (K 5)
 (zpea a0 fun r52 r53 r54 =>
 cond r54
 (K 1)
 (zada a0 91 102 fun r55 =>
 cond r55
 (K 11)
 (zada a0 139 166 fun r56 =>
 cond r56
 (K 11)
 (zada a0 168 171 fun r57 =>
 cond r57
 (K 11)
 (zada a0 174 191 fun r58 =>
 cond r58
 (K 11)
 (zada a0 256 263 fun r59 =>
 cond r59
 (K 11)
 (K 0))))))))))))))))))))))))))))))))))))))))))))))))))))))
noncomputable def zkIa:CSpec:={ ins:=[(.val (.int .i64) .s)],outs:=[((.int .i64),.s)],fn:=fun d K _=>zmva d.1 (fun r0=>K (r0,()) ()) }
theorem zWUa:Holds Tryz.prog 106 zkIa:=hw zgRa [(2,none)] (lp:=lp0) (code:=body Tryz.f106.body) zfaa Tryz.func106 l0 ⟨mixed,envTyOk.ty,envTyOk.eq⟩
noncomputable def zoVa:GE Tryz.prog:=⟨106,[],zkIa,zWUa⟩
noncomputable def zYSa:Nat→Bool
 |5=>true
 |_=>false
noncomputable def zhRa:Env:={ E0 with n:=Tryz.f107.ntmps,fz:=zYSa }
noncomputable def zZba (a0:Ti) (a1 a2 a3 a4:Bool) (K:Bool→Option R):Option R :=
 let k1:Option R:=(let k2:Option R:=(let k3:Option R:=(cond a4
 (K true)
 (K ((a0.2.2.2.2.1.length:Int)==0)))
 cond a3
 (k3)
 (cond (a0.2.2.2.1==0)
 (k3)
 (K false)))
 cond a2
 (k2)
 (cond (a0.2.2.1==0)
 (k2)
 (K false)))
 cond a1
 (k1)
 (cond (a0.2.1==0)
 (k1)
 (K false))
noncomputable def zlIa:CSpec:={ ins:=[(.val (.pair (.int .i64) (.pair (.int .i64) Ty0)) .s),(.val .bool .s),(.val .bool .s),(.val .bool .s),(.val .bool .s)],outs:=[(.bool,.s)],fn:=fun d K _=>zZba d.1 d.2.1 d.2.2.1 d.2.2.2.1 d.2.2.2.2.1 (fun r0=>K (r0,()) ()) }
theorem zXUa:Holds Tryz.prog 107 zlIa:=hw zhRa [(10,none)] (lp:=lp0) (code:=body Tryz.f107.body) zfaa Tryz.func107 l0 ⟨mixed,envTyOk.ty,envTyOk.eq⟩
noncomputable def zpVa:GE Tryz.prog:=⟨107,[],zlIa,zXUa⟩
noncomputable def ziTa:Env:={ E0 with n:=Tryz.f159.ntmps }
noncomputable def zUza (a0:Int) (K:Bool→Option R):Option R :=
 cond (decide (a0≥0))
 (K (decide (a0<4294967296)))
 (K false)
noncomputable def zIMa:CSpec:={ ins:=[(.val (.int .i64) .s)],outs:=[(.bool,.s)],fn:=fun d K _=>zUza d.1 (fun r0=>K (r0,()) ()) }
theorem zxWa:Holds Tryz.prog 159 zIMa:=hw ziTa [(2,none)] (lp:=lp0) (code:=body Tryz.f159.body) zfaa Tryz.func159 l0 ⟨mixed,envTyOk.ty,envTyOk.eq⟩
noncomputable def zMWa:GE Tryz.prog:=⟨159,[],zIMa,zxWa⟩
noncomputable def znHa:Env:={ E0 with n:=Tryz.f186.ntmps }
noncomputable def zcka (a0:Tl) (K:Tl→Option R):Option R :=
 let k1:Option R:=(cond (decide (List.length (List.replicate 0 (0:Int))+a0.length≤most))
 (K ((List.replicate 0 (0:Int))++a0)) none)
 cond (List.isEmpty a0)
 (both
 (K [])
 (let v1:=List.replicate 0 (0:Int)
 k1))
 (let v3:=List.replicate 0 (0:Int)
 k1)
noncomputable def zRwa:CSpec:={ ins:=[(.val (.sl 5 (.int .u8)) .s)],outs:=[((.sl 5 (.int .u8)),(.o .s))],fn:=fun d K _=>zcka d.1 (fun r0=>K (r0,()) ()) }
theorem zZLa:Holds Tryz.prog 186 zRwa:=hw znHa [(2,none)] (lp:=lp0) (code:=body Tryz.f186.body) zfaa Tryz.func186 l0 ⟨mixed,envTyOk.ty,envTyOk.eq⟩
noncomputable def zgMa:GE Tryz.prog:=⟨186,[],zRwa,zZLa⟩
noncomputable def zXDa:Env:=mE [zgMa] Tryz.f160
structure X_leb_PutS_2 where (f1:Int) (f5:Tl)
noncomputable def znha (k_exit_0:Int→Tl→Option R) (rec:X_leb_PutS_2→Option R) (x:X_leb_PutS_2):Option R :=
 let k1:Option R:=(cond (decide (x.f5.length+List.length (List.set (List.replicate 1 (0:Int)) 0 (IntKind.u8.wrap ((BitVec.ofInt IntKind.u8.bits (IntKind.u8.wrap x.f1) ||| BitVec.ofInt IntKind.u8.bits 128).toNat)))≤most))
 (cond (decide (0≤7))
 (rec ⟨(shrI .i64 x.f1 7),(x.f5++(List.set (List.replicate 1 (0:Int)) 0 (IntKind.u8.wrap ((BitVec.ofInt IntKind.u8.bits (IntKind.u8.wrap x.f1) ||| BitVec.ofInt IntKind.u8.bits 128).toNat))))⟩) none) none)
 cond (decide (x.f1<(-64)))
 (k1)
 (cond (decide (x.f1>63))
 (k1)
 (k_exit_0 x.f1 x.f5))
noncomputable def zaDa:LB:=⟨[.d 1 A0,.d 5 A1],[((.exit 0),[.d 1 A0,.d 5 A1])]⟩
noncomputable def zcNa:LF X_leb_PutS_2:=fun _ K=>znha (exS zaDa 0 K)
noncomputable def zLOa:Loops:=fun z i R st K=>match z,i with
 |false,2=>lpS zaDa X_leb_PutS_2.mk zcNa K st
 |_,_=>none
theorem zZRa:LOk zXDa zLOa inl0 2 Tryz.f160:=lok zaDa X_leb_PutS_2.mk (fun x=>(x.f1,x.f5,())) zcNa 2
theorem zUPa:zsaa zXDa zLOa inl0 (body Tryz.f160.body):=lsL (.cons zZRa .nil) .nil
noncomputable def zcqa (a0:Tl) (a1:Int) (K:Tl→Option R):Option R :=
 zcka a0 fun r1 =>
 loopN (znha (fun w2 w3 =>
 let v6:=List.set (List.replicate 1 (0:Int)) 0 (IntKind.u8.wrap ((BitVec.ofInt IntKind.u8.bits (IntKind.u8.wrap w2) &&& BitVec.ofInt IntKind.u8.bits 127).toNat))
 cond (decide (w3.length+v6.length≤most))
 (K (w3++v6)) none)) zpaa ⟨a1,r1⟩
noncomputable def zaPa:CSpec:={ ins:=[(.val (.sl 5 (.int .u8)) .s),(.val (.int .i64) .s)],outs:=[((.sl 5 (.int .u8)),(.o .s))],fn:=fun d K _=>zcqa d.1 d.2.1 (fun r0=>K (r0,()) ()) }
theorem zbYa:Holds Tryz.prog 160 zaPa:=hw zXDa [(4,none)] zfaa Tryz.func160 zUPa ⟨mixed,envTyOk.ty,envTyOk.eq⟩
noncomputable def zhYa:GE Tryz.prog:=⟨160,[],zaPa,zbYa⟩
noncomputable def zyMa:Env:=mE [zMWa,zhYa] Tryz.f108
noncomputable def zIea (a0:Tl) (a1:Int) (K:Tl→Int→Option R):Option R :=
 cond (a1 != (-64))
 (cond (a1 != (-1))
 (cond (a1 != (-2))
 (zUza a1 fun r4 =>
 cond (!r4)
 (K [] 2)
 (zcqa a0 a1 fun r6 =>
 K r6 0))
 (zcqa a0 a1 fun r7 =>
 K r7 0))
 (zcqa a0 a1 fun r8 =>
 K r8 0))
 (zcqa a0 a1 fun r9 =>
 K r9 0)
noncomputable def zXBa:CSpec:={ ins:=[(.val (.sl 5 (.int .u8)) .s),(.val (.int .i64) .s)],outs:=[((.sl 5 (.int .u8)),(.o .s)),((.int .i64),.s)],fn:=fun d K _=>zIea d.1 d.2.1 (fun r0 r1=>K (r0,r1,()) ()) }
theorem zcQa:Holds Tryz.prog 108 zXBa:=hw zyMa [(4,none),(5,none)] (lp:=lp0) (code:=body Tryz.f108.body) zfaa Tryz.func108 l0 ⟨mixed,envTyOk.ty,envTyOk.eq⟩
noncomputable def ztQa:GE Tryz.prog:=⟨108,[],zXBa,zcQa⟩
noncomputable def zqHa:Env:={ E0 with n:=Tryz.f161.ntmps }
noncomputable def zdqa (a0:Int) (K:Bool→Option R):Option R :=
 cond (decide (a0<0))
 (K true)
 (K (decide (a0≥4294967296)))
noncomputable def zVwa:CSpec:={ ins:=[(.val (.int .i64) .s)],outs:=[(.bool,.s)],fn:=fun d K _=>zdqa d.1 (fun r0=>K (r0,()) ()) }
theorem zdMa:Holds Tryz.prog 161 zVwa:=hw zqHa [(2,none)] (lp:=lp0) (code:=body Tryz.f161.body) zfaa Tryz.func161 l0 ⟨mixed,envTyOk.ty,envTyOk.eq⟩
noncomputable def znoa:List (FuncId×List FuncId×CSpec):=[(161,[],zVwa)]
noncomputable def zOEa:Nat→Bool
 |104=>true
 |157=>true
 |_=>false
noncomputable def env_instr_numberx0x0:Env:={ E0 with gam:=(gamL znoa),n:=Tryz.f157.ntmps,il:=zOEa,b:=17 }
theorem zSya:EnvFn Tryz.prog env_instr_numberx0x0:=fun f gs c h=>zPOa (l:=znoa) ⟨zdMa,trivial⟩ f gs c h
structure X_instr_numberx0x0_2 where (f17:Tl) (f24 f25:Int)
noncomputable def ztca (k_ret:Int→Option R) (k_exit_0:Option R) (rec:X_instr_numberx0x0_2→Option R) (x:X_instr_numberx0x0_2):Option R :=
 cond (decide (x.f25<x.f24))
 (cond (inB x.f25 x.f17.length)
 (zdqa (x.f17.getD x.f25.toNat 0) fun r3 =>
 cond r3
 (k_ret x.f25)
 (rec ⟨x.f17,x.f24,(IntKind.i64.wrap (x.f25+1))⟩)) none)
 (k_exit_0)
noncomputable def zHea:LB:=⟨[.d 17 A2,uFn 18 161 [] [],.d 24 A0,.d 25 A0],[(.ret,[.d 21 A0]),((.exit 0),[])]⟩
noncomputable def zhra:LF X_instr_numberx0x0_2:=fun _ K=>ztca (exS zHea 0 K) (exS zHea 1 K)
noncomputable def zega:Loops:=fun z i R st K=>match z,i with
 |false,2=>lpS zHea X_instr_numberx0x0_2.mk zhra K st
 |_,_=>none
theorem zAAa:LOk env_instr_numberx0x0 zega inl0 2 Tryz.f157:=lok zHea X_instr_numberx0x0_2.mk (fun x=>(x.f17,x.f24,x.f25,())) zhra 2
theorem zqya:zsaa env_instr_numberx0x0 zega inl0 (body Tryz.f157.body):=lsL (.cons zAAa .nil) .nil
theorem zeBa:InlF Tryz.prog env_instr_numberx0x0.b 157 (fun R st xs K Kp=>match Nat.ble xs.length env_instr_numberx0x0.n with|true=>evC env_instr_numberx0x0 zega inl0 (body Tryz.f157.body) (st.enter env_instr_numberx0x0.b xs) (inlK env_instr_numberx0x0 [(4,none)] K Kp)|false=>none) :=
 zOwa mixed ⟨envTyOk.ty,envTyOk.eq⟩ zSya zfaa Tryz.func157 (by kernel_rfl) (by kernel_rfl) (by kernel_rfl) (by kernel_rfl) (by kernel_rfl) zqya (by kernel_rfl)
noncomputable def zDJa:Nat→Bool
 |104=>true
 |157=>true
 |_=>false
noncomputable def env_instr_numberx0:Env:={ E0 with n:=Tryz.f104.ntmps,il:=zDJa,b:=7 }
noncomputable def zwha:Inl:=fun f d R st xs K Kp=>match f,d with
 |157,some 7=>match Nat.ble xs.length env_instr_numberx0x0.n with
  |true=>evC env_instr_numberx0x0 zega inl0 (body Tryz.f157.body) (st.enter env_instr_numberx0x0.b xs) (inlK env_instr_numberx0x0 [(4,none)] K Kp)
  |false=>none
 |_,_=>none
theorem zDDa:InlOk Tryz.prog env_instr_numberx0.top zwha:=zCna fun f d=>by
 unfold zwha;split
 ·exact zeBa
 ·exact zzia
theorem zMEa:InlF Tryz.prog env_instr_numberx0.b 104 (fun R st xs K Kp=>match Nat.ble xs.length env_instr_numberx0.n with|true=>evC env_instr_numberx0 lp0 zwha (body Tryz.f104.body) (st.enter env_instr_numberx0.b xs) (inlK env_instr_numberx0 [(4,none)] K Kp)|false=>none) :=
 zOwa mixed ⟨envTyOk.ty,envTyOk.eq⟩ (fun _ _ _ h=>by cases h) zDDa Tryz.func104 (by kernel_rfl) (by kernel_rfl) (by kernel_rfl) (by kernel_rfl) (by kernel_rfl) (zSga (by kernel_rfl) (by kernel_rfl)) (by kernel_rfl)
noncomputable def zdOa:Nat→Bool
 |104=>true
 |157=>true
 |_=>false
noncomputable def env_instr_number:Env:={ E0 with n:=Tryz.f109.ntmps,il:=zdOa }
noncomputable def zKya:Inl:=fun f d R st xs K Kp=>match f,d with
 |104,some 4=>match Nat.ble xs.length env_instr_numberx0.n with
  |true=>evC env_instr_numberx0 lp0 zwha (body Tryz.f104.body) (st.enter env_instr_numberx0.b xs) (inlK env_instr_numberx0 [(4,none)] K Kp)
  |false=>none
 |_,_=>none
theorem zOGa:InlOk Tryz.prog env_instr_number.top zKya:=zCna fun f d=>by
 unfold zKya;split
 ·exact zMEa
 ·exact zzia
noncomputable def zNea (a0:Tl) (K:Bool→Option R):Option R :=
 loopN (ztca (fun w2 =>
 K (!(decide (w2≥(0:Int))))) (K (!(decide ((-1:Int)≥(0:Int)))))) zpaa ⟨a0,(a0.length:Int),(0:Int)⟩
noncomputable def zjCa:CSpec:={ ins:=[(.val (.sl 3 (.int .i64)) .s)],outs:=[(.bool,.s)],fn:=fun d K _=>zNea d.1 (fun r0=>K (r0,()) ()) }
theorem zoQa:Holds Tryz.prog 109 zjCa:=hw env_instr_number [(2,none)] (lp:=lp0) (code:=body Tryz.f109.body) zOGa Tryz.func109 l0 ⟨mixed,envTyOk.ty,envTyOk.eq⟩
noncomputable def zGQa:GE Tryz.prog:=⟨109,[],zjCa,zoQa⟩
noncomputable def zoOa:Nat→Bool
 |1=>true
 |_=>false
noncomputable def zVNa:Nat→Option (List Nat)
 |0=>some [0]
 |1|5|7|11|13|15|17|19=>some [1]
 |2|3|4|6|9|10|12|14|16|18=>some [1,7]
 |8=>some [1,4]
 |20=>some []
 |_=>none
noncomputable def zDMa:Env:={ mE [zoVa,zpVa,ztQa,zGQa] Tryz.f62 with fz:=zoOa,lv:=zVNa }
noncomputable def zOea (a0:Ti) (K:Bool→Option R):Option R :=
 zmva a0.1 fun r1 =>
 cond (r1==1)
 (zZba a0 false false false false fun r3 =>
 K r3)
 (cond (r1==6)
 (zZba a0 false false false false fun r5 =>
 K r5)
 (cond (r1==7)
 (zZba a0 false false false false fun r7 =>
 K r7)
 (cond (r1==2)
 (zIea [] a0.2.1 fun r9 r10 =>
 cond (r10==0)
 (zZba a0 true false false false fun r12 =>
 K r12)
 (K false))
 (let k1:Option R:=(zNea (List.set (List.replicate 1 (0:Int)) 0 a0.2.1) fun r15 =>
 cond r15
 (zZba a0 true false false false fun r16 =>
 K r16)
 (K false))
 cond (r1==3)
 (k1)
 (cond (r1==10)
 (k1)
 (cond (r1==4)
 (zNea (List.set (List.replicate 1 (0:Int)) 0 a0.2.1) fun r23 =>
 cond r23
 (zNea a0.2.2.2.2.1 fun r24 =>
 cond r24
 (cond (decide ((a0.2.2.2.2.1.length:Int)≤64))
 (zZba a0 true false false true fun r27 =>
 K r27)
 (K false))
 (K false))
 (K false))
 (cond (r1==5)
 (zNea (List.set (List.set (List.replicate 2 (0:Int)) 0 a0.2.1) 1 a0.2.2.1) fun r30 =>
 cond r30
 (zZba a0 true true false false fun r31 =>
 K r31)
 (K false))
 (cond (r1==8)
 (cond (decide (a0.2.2.2.1≥(-2147483648)))
 (cond (decide (a0.2.2.2.1<2147483648))
 (zZba a0 false false true false fun r35 =>
 K r35)
 (K false))
 (K false))
 (cond (r1==9)
 (zZba a0 false false true false fun r37 =>
 K r37)
 (K false))))))))))
noncomputable def zkCa:CSpec:={ ins:=[(.val (.pair (.int .i64) (.pair (.int .i64) Ty0)) .s)],outs:=[(.bool,.s)],fn:=fun d K _=>zOea d.1 (fun r0=>K (r0,()) ()) }
theorem zpQa:Holds Tryz.prog 62 zkCa:=hw zDMa [(2,none)] (lp:=lp0) (code:=body Tryz.f62.body) zfaa Tryz.func62 l0 ⟨mixed,envTyOk.ty,envTyOk.eq⟩
noncomputable def zHQa:GE Tryz.prog:=⟨62,[],zkCa,zpQa⟩
noncomputable def zfHa:Nat→Bool
 |3=>true
 |_=>false
noncomputable def zgGa:Nat→Bool
 |67=>true
 |_=>false
noncomputable def zLGa:Nat→Bool
 |12=>true
 |17=>true
 |_=>false
noncomputable def zwGa:Nat→Option (List Nat)
 |0=>some [0,1,1000000]
 |1|6|8=>some [0,3,1000000]
 |2=>some [0,3,6,1000000]
 |3|4|5=>some [0,3,6,14,1000000]
 |7|11|15|17=>some [1000000]
 |9|13=>some [0,6,14,1000000]
 |10|12|14|16=>some [0,6,1000000]
 |_=>none
noncomputable def zKca:Env:={ E0 with n:=Tryz.f63.ntmps,fz:=zfHa,sb:=zgGa,js:=zLGa,lv:=zwGa }
structure Y_instr_nest_step_12 where (f6:Int) (f1000000:(List Bool)×Unit)
noncomputable def zrda (k_ret:Bool→Int→((List Bool)×Unit)→Option R) (k_normal:Int→((List Bool)×Unit)→Option R) (x:Y_instr_nest_step_12):Option R :=
 cond (decide (x.f6<0))
 (k_ret false 2 x.f1000000)
 (cond (inB x.f6 x.f1000000.1.length)
 (cond (!(x.f1000000.1.getD x.f6.toNat false))
 (k_ret false 2 x.f1000000)
 (k_normal x.f6 x.f1000000)) none)
noncomputable def zCea:LB:=⟨[uAl 0 1000000 [.der],.d 6 A0,.d 1000000 B0],[(.ret,[.d 4 A22,.d 5 A0,.d 1000000 B0]),(.normal,[uAl 0 1000000 [.der],.d 6 A0,.d 1000000 B0])]⟩
noncomputable def zeoa:JF Y_instr_nest_step_12:=fun _ K=>zrda (exS zCea 0 K) (exS zCea 1 K)
structure zqca where (f3:Ti) (f6:Int) (f1000000:(List Bool)×Unit)
noncomputable def zqda (k_ret:Bool→Int→((List Bool)×Unit)→Option R) (k_normal:((List Bool)×Unit)→Option R) (x:zqca):Option R :=
 let k1:Option R:=(cond (decide ((x.f1000000.1.length:Int)≥64))
 (k_ret false 4 x.f1000000)
 (let v5:=List.set (List.replicate 1 false) 0 (x.f3.1==4)
 cond (decide (x.f1000000.1.length+v5.length≤most))
 (k_normal ((x.f1000000.1++v5),x.f1000000.2)) none))
 cond (x.f3.1==2)
 (k1)
 (cond (x.f3.1==3)
 (k1)
 (cond (x.f3.1==4)
 (k1)
 (cond (x.f3.1==5)
 (zrda (fun w26 w27 w28 =>
 k_ret w26 w27 w28) (fun w29 w30 =>
 cond (inB w29 w30.1.length)
 (k_normal ((List.set w30.1 w29.toNat false),w30.2)) none) ⟨x.f6,x.f1000000⟩)
 (cond (x.f3.1==11)
 (cond (decide (x.f6<0))
 (k_ret true 0 x.f1000000)
 (cond (inR 0 x.f6 x.f1000000.1.length)
 (k_normal ((rng x.f1000000.1 0 x.f6),x.f1000000.2)) none))
 (k_normal x.f1000000)))))
noncomputable def zYia (k_ret:Bool→Int→((List Bool)×Unit)→Option R) (k_normal:((List Bool)×Unit)→Option R) (x:zqca):Option R :=
 let k1:Option R:=(cond (decide ((x.f1000000.1.length:Int)≥64))
 (k_ret false 4 x.f1000000)
 (let v4:=x.f3.1==4
 let k2:Option R:=(cond (decide (x.f1000000.1.length+List.length (List.set (List.replicate 1 false) 0 (x.f3.1==4))≤most))
 (k_normal ((x.f1000000.1++(List.set (List.replicate 1 false) 0 (x.f3.1==4))),x.f1000000.2)) none)
 both
 (k2)
 (k2)))
 cond (x.f3.1==2)
 (k1)
 (cond (x.f3.1==3)
 (k1)
 (cond (x.f3.1==4)
 (k1)
 (cond (x.f3.1==5)
 (zrda (fun w26 w27 w28 =>
 k_ret w26 w27 w28) (fun w29 w30 =>
 cond (inB w29 w30.1.length)
 (k_normal ((List.set w30.1 w29.toNat false),w30.2)) none) ⟨x.f6,x.f1000000⟩)
 (cond (x.f3.1==11)
 (cond (decide (x.f6<0))
 (k_ret true 0 x.f1000000)
 (cond (inR 0 x.f6 x.f1000000.1.length)
 (k_normal ((rng x.f1000000.1 0 x.f6),x.f1000000.2)) none))
 (k_normal x.f1000000)))))
theorem zaya {R:Type} (k_ret:Bool→Int→((List (Bool))×Unit)→Option R) (k_normal:((List (Bool))×Unit)→Option R) (x:zqca):zYia (R:=R) k_ret k_normal x=zqda (R:=R) k_ret k_normal x:=by
 unfold zYia zqda;simp only[zKaa]
noncomputable def zcra (x:zqca):St:=St.ofList [(0,(.al 1000000 [.der])),(3,(a6 (some x.f3))),(6,(a0 x.f6)),(1000000,(a5 (some x.f1000000)))]
def zHma:Ex→List (Nat×Bool) | .ret=>[(4,false),(5,false),(1000000,false)] | .normal=>[(1000000,false)]|_=>[]
def zNma:List (Nat×Bool):=[(0,false),(3,false),(6,false),(1000000,false)]
noncomputable def zJma:Pt zqca := .s 0 (sAl 1000000 [.der]) fun _ => .s 3 B1 fun y3 => .s 6 A0 fun y6 => .s 1000000 B0 fun y1000000 => .e ⟨y3,y6,y1000000⟩
noncomputable def zdoa (R:Type) (K:Ex→St→Option R):zqca→Option R:=zqda (fun e4 e5 e1000000=>K .ret (St.ofList [(4,(a2 e4)),(5,(a0 e5)),(1000000,(a5 (some e1000000)))])) (fun e1000000=>K .normal (St.ofList [(1000000,(a5 (some e1000000)))]))
noncomputable def zsea:Loops:=fun z i R st K=>match z,i with
 |true,12=>jpS zCea Y_instr_nest_step_12.mk zeoa K st
 |true,17=>lpE zNma zJma (zdoa R K) st
 |_,_=>none
theorem zDya:JOk zKca zsea inl0 12 Tryz.f63:=jok zCea Y_instr_nest_step_12.mk (fun x=>(x.f6,x.f1000000,())) zeoa 12
theorem zzva:JStep zKca zsea inl0 (jcOf 17 (body Tryz.f63.body)) zHma zcra zdoa:=fun R K x=>by
 have h:evC zKca zsea inl0 (jcOf 17 (body Tryz.f63.body)) (zcra x) (fun e st=>zAka (zHma e) st (K e))=zYia (fun e4 e5 e1000000=>K .ret (St.ofList [(4,(a2 e4)),(5,(a0 e5)),(1000000,(a5 (some e1000000)))])) (fun e1000000=>K .normal (St.ofList [(1000000,(a5 (some e1000000)))])) x:=by kernel_rfl
 rw[h,zaya]; rfl
theorem zCya:JOk zKca zsea inl0 17 Tryz.f63:=zvda (hd:=zNma) zzva (p:=zJma) (fun _ _ _ _=>⟨rfl,rfl⟩) fun _ _ _=>rfl
theorem zLAa:zsaa zKca zsea inl0 (body Tryz.f63.body):=lsL .nil (.cons zDya (.cons zCya .nil))
noncomputable def zica (a0:(List Bool)×Unit) (a1:Ti) (K:Bool→Int→((List Bool)×Unit)→Option R):Option R :=
 zqda (fun w3 w4 w5 =>
 K w3 w4 w5) (fun w6 =>
 K false 0 w6) ⟨a1,(IntKind.i64.wrap ((a0.1.length:Int)-1)),a0⟩
noncomputable def zkua:CSpec:={ ins:=[(.ref (.pair (.sl 4 .bool) .unit) (.p (.o .s) .s) (.p (.o .s) .s)),(.val (.pair (.int .i64) (.pair (.int .i64) Ty0)) .s)],outs:=[(.bool,.s),((.int .i64),.s)],fn:=fun d K _=>zica d.1 d.2.1 (fun r0 r1 b0=>K ((r0,r1,()):Bool×Int×Unit) ((b0,()):((List (Bool))×Unit)×Unit)) }
theorem zMJa:Holds Tryz.prog 63 zkua:=hw zKca [(4,none),(5,none)] zfaa Tryz.func63 zLAa ⟨mixed,envTyOk.ty,envTyOk.eq⟩
noncomputable def zUJa:GE Tryz.prog:=⟨63,[],zkua,zMJa⟩
noncomputable def zsOa:Nat→Bool
 |5=>true
 |_=>false
noncomputable def zNqa:Env:={ mE [zHQa,zUJa] Tryz.f31 with fs:=zsOa }
structure X_instr_Closed_5 where (f0:Tj) (f3:(List Bool)×Unit) (f11:Tj) (f12 f13:Int)
noncomputable def zsda (k_ret:Bool→Option R) (k_exit_0:Option R) (rec:X_instr_Closed_5→Option R) (x:X_instr_Closed_5):Option R :=
 cond (decide (x.f13<x.f12))
 (cond (inB x.f13 x.f11.length)
 (let v2:=x.f11.getD x.f13.toNat (0,(0,(0,(0,([],())))))
 zOea v2 fun r3 =>
 cond (!r3)
 (k_ret false)
 (zica x.f3 v2 fun r5 r6 b7 =>
 cond (r6 != 0)
 (k_ret false)
 (cond r5
 (k_ret (x.f13==(IntKind.i64.wrap ((x.f0.length:Int)-1))))
 (rec ⟨x.f0,b7,x.f11,x.f12,(IntKind.i64.wrap (x.f13+1))⟩)))) none)
 (k_exit_0)
noncomputable def zXja:LB:=⟨[.d 0 A3,.d 3 B2,.d 11 A3,.d 12 A0,.d 13 A0],[(.ret,[.d 2 A22]),((.exit 0),[])]⟩
noncomputable def zPza:LF X_instr_Closed_5:=fun _ K=>zsda (exS zXja 0 K) (exS zXja 1 K)
noncomputable def zIBa:Loops:=fun z i R st K=>match z,i with
 |false,5=>lpS zXja X_instr_Closed_5.mk zPza K st
 |_,_=>none
theorem zrJa:LOk zNqa zIBa inl0 5 Tryz.f31:=lok zXja X_instr_Closed_5.mk (fun x=>(x.f0,x.f3,x.f11,x.f12,x.f13,())) zPza 5
theorem zFGa:zsaa zNqa zIBa inl0 (body Tryz.f31.body):=lsL (.cons zrJa .nil) .nil
noncomputable def zMoa (a0:Tj) (K:Bool→Option R):Option R :=
 cond (decide ((a0.length:Int)>2000))
 (K false)
 (loopN (zsda (fun w4 =>
 K w4) (K false)) zpaa ⟨a0,([],()),a0,(a0.length:Int),0⟩)
noncomputable def zlCa:CSpec:={ ins:=[(.val (.sl 45 (.pair (.int .i64) (.pair (.int .i64) Ty0))) .s)],outs:=[(.bool,.s)],fn:=fun d K _=>zMoa d.1 (fun r0=>K (r0,()) ()) }
theorem zqQa:Holds Tryz.prog 31 zlCa:=hw zNqa [(2,none)] zfaa Tryz.func31 zFGa ⟨mixed,envTyOk.ty,envTyOk.eq⟩
set_option maxHeartbeats 400000 in
theorem zaVa (A:Option Addr) (len cap:Nat) (n:Int) (w:World) (h_main_main:0≤n) (hn:(len:Int)+n≤4294967296) (hl:len≤cap) (hcap:(cap:Int)≤9223372036854775807) (h:n≤(cap:Int)-len) :
  Calls Tryz.prog 64 #[.slice A len cap,.int .i64 n] w fun e w'=>e = .returned (.slice A len cap)∧w'=w:=by
 go_enter Tryz.func64,Tryz.ntmps64
 go_wp2
 go_ret
 exact ⟨rfl,rfl⟩
set_option maxHeartbeats 1000000 in
theorem zOOa (a:Addr) (len cap m:Nat) (n:Int) (w:World) (h_main_main:0≤n) (hn:(len:Int)+n≤4294967296) (hl:len≤cap) (hcap:(cap:Int)≤9223372036854775807) (h:(cap:Int)-len<n) (hm:n-((cap:Int)-len)=m) (xs:List Value) (hfo:(loadCellsFrom a 0 cap #[]).run Tryz.prog w.drew = .ok xs.toArray w.drew) :
  Calls Tryz.prog 64 #[.slice (some a) len cap,.int .i64 n] w fun e w''=>e = .returned (.slice (some ⟨w.heap.size,0,none⟩) len (grownCap w (cap+m) cap 3)) ∧
   w''=w.drew.alloc (.cells (xs.toArray++(Builtin.zeroCells #[.int .i64 0] m++Builtin.zeroCells #[.int .i64 0] (grownCap w (cap+m) cap 3-(cap+m)))) 3):=by
 have hb5:Tryz.t3.bytes=8:=by kernel_rfl
 have hs5:Tryz.t3.size=1:=by kernel_rfl
 have hnx:=growslice_fits (need:=cap+m) (old:=cap) (bytes:=8) (by omega) (by omega);have hge:=grownCap_ge w (cap+m) cap 3;unfold grownCap at hge ⊢;have hlc:len≤(Question.appendCap (cap+m) cap 3).cut (w.tape w.drawn (Question.appendCap (cap+m) cap 3)):=by omega
 generalize hcc:(Question.appendCap (cap+m) cap 3).cut (w.tape w.drawn (Question.appendCap (cap+m) cap 3))=cc at *
 go_enter Tryz.func64,Tryz.ntmps64
 go_wp2
 all_goals (go_ret; exact ⟨rfl,by simp⟩)
set_option maxHeartbeats 1000000 in
theorem zLWa (len cap m:Nat) (n:Int) (w:World) (h_main_main:0≤n) (hn:(len:Int)+n≤4294967296) (hl:len≤cap) (hcap:(cap:Int)≤9223372036854775807) (h:(cap:Int)-len<n) (hm:n-((cap:Int)-len)=m) :
  Calls Tryz.prog 64 #[.slice none len cap,.int .i64 n] w fun e w''=>e = .returned (.slice (some ⟨w.heap.size,0,none⟩) len (grownCap w (cap+m) cap 3)) ∧
   w''=w.drew.alloc (.cells (#[]++(Builtin.zeroCells #[.int .i64 0] m++Builtin.zeroCells #[.int .i64 0] (grownCap w (cap+m) cap 3-(cap+m)))) 3):=by
 have hb5:Tryz.t3.bytes=8:=by kernel_rfl
 have hs5:Tryz.t3.size=1:=by kernel_rfl
 have hnx:=growslice_fits (need:=cap+m) (old:=cap) (bytes:=8) (by omega) (by omega);have hge:=grownCap_ge w (cap+m) cap 3;unfold grownCap at hge ⊢;have hlc:len≤(Question.appendCap (cap+m) cap 3).cut (w.tape w.drawn (Question.appendCap (cap+m) cap 3)):=by omega
 generalize hcc:(Question.appendCap (cap+m) cap 3).cut (w.tape w.drawn (Question.appendCap (cap+m) cap 3))=cc at *
 go_enter Tryz.func64,Tryz.ntmps64
 go_wp2
 all_goals (go_ret; exact ⟨rfl,by simp⟩)
noncomputable def zUpa (a0:List Int) (a1:Int) (K:List Int→Option R):Option R:=cond (decide (0≤a1∧(a0.length:Int)+a1≤4294967296)) (K a0) none
noncomputable def cs_slices_GrowInt:CSpec:={ ins:=[(.val (.sl 3 (.int .i64)) (.o .s)),(.val (.int .i64) .s)],outs:=[((.sl 3 (.int .i64)),(.o .s))],fn:=fun d K _=>zUpa d.1 d.2.1 fun r0=>K ((r0,()):(List Int)×Unit) () }
theorem zdYa {F:Blks} {w:World} {x:List Int} {A:Option Addr} {cap m:Nat} {fp:Blks} (hr:rep F w (.sl 3 (.int .i64)) (.o .s) x (cv (.slice A x.length cap)) fp) (xs:List Value) (c:Nat) (hc:cap+m≤c) (hcm:c≤2 ^ 63-1) (hl:xs.length=cap) (hle:x.length≤cap)
  (hx:∀a,A=some a→∀j,j<x.length→xs.getD j undef=rowW w a.block (a.off+j) 0) (hA:A=none→x=[]) {w':World}
  (hw:w'=w.drew.alloc (.cells (xs.toArray++(Builtin.zeroCells #[.int .i64 0] m++Builtin.zeroCells #[.int .i64 0] (c-(cap+m)))) 3)) :
  rep F w' (.sl 3 (.int .i64)) (.o .s) x (cv (.slice (some ⟨w.heap.size,0,none⟩) x.length c)) (fun b=>b=w.heap.size∨∃i,(fun (_:Nat) (_:Nat)=>False) i b):=by
 subst hw;have hnew:=zYoa (w:=w.drew) (ob := .cells (xs.toArray++(Builtin.zeroCells #[.int .i64 0] m++Builtin.zeroCells #[.int .i64 0] (c-(cap+m)))) 3);refine zJRa (t := .int .i64) (z:=x) (fs:=fun _ _=>False) hnew rfl ?_ (by show x.length≤c; omega) hcm ⟨fun _ _ _ _ hb=>hb.elim⟩ (fun _ _ hb=>hb.elim) fun i hi=>?_
 ·simp[Builtin.zeroCells,hl,Ty.size];omega
 ·have hi':i<x.length:=hi;have hg:(xs.toArray++(Builtin.zeroCells #[.int .i64 0] m++Builtin.zeroCells #[.int .i64 0] (c-(cap+m)))).getD (i*Ty.size (.int .i64)+0) undef=xs.getD i undef:=by
   simp only[Ty.size,Nat.mul_one,Nat.add_zero,Array.getD_eq_getD_getElem?,List.getD_eq_getElem?_getD];rw[Array.getElem?_append_left (by simp; omega)];simp
  cases A with
  |none=>rw[hA rfl]at hi'; simp at hi'
  |some a =>
   simp only[rep]at hr;obtain ⟨A',cap',r1,r2,r3,r4,r5⟩:=hr;have r1':Value.slice (some a) x.length cap = .slice A' x.length cap':=r1;cases r1';obtain ⟨_,_,_,fs,_,_,r6⟩:=r5 a rfl;have r7:=r6 i hi;show _∧_;have r8:rowW w a.block (a.off+i*Ty.size (.int .i64)) 0 = .int .i64 (x.getD i 0)∧IntKind.i64.has (x.getD i 0):=r7;refine ⟨hg.trans ((hx a rfl i hi').trans ?_),r8.2⟩;have r9:=r8.1;simp only[Ty.size,Nat.mul_one]at r9;exact r9
theorem zYLa:Holds Tryz.prog 64 cs_slices_GrowInt:=by
 refine ⟨⟨Tryz.f64,_,Tryz.func64,by kernel_rfl,rfl⟩,?_⟩;intro F w (d:List Int×Int×Unit) vs fps R K Kp res hGl hFs hd hfp hargs hcall;obtain ⟨x,n,u⟩:=d;obtain ⟨v0,vs1,rfl,i0,_,r0,v1,vs2,rfl,i1,_,r1,h_gosem_cut_init⟩:=hargs;have h_gosem_cut_init:vs2=[]:=h_gosem_cut_init;subst h_gosem_cut_init;obtain ⟨e1,k1⟩:=zMRa i1 (by intro h; cases h) r1;subst e1;have hcall':cond (decide (0≤n∧((x:List Int).length:Int)+n≤4294967296)) (K (x,()) ()) none=some res:=hcall;by_cases hb:0≤n∧((x:List Int).length:Int)+n≤4294967296
 ·rw[decide_eq_true hb]at hcall';have hK:K (x,()) ()=some res:=hcall';have hr0:=r0;simp only[rep]at r0;obtain ⟨A,cap,q1,q2,q3,q4,q5⟩:=r0;have hv0:v0 = .slice A (List.length (α:=Int) x) cap:=by
   have h_gosem_cut_init:v0=valOf (.sl 3 (.int .i64)) (cv v0):=i0;rw[h_gosem_cut_init];simp only[valOf,Ty.agg,Bool.false_eq_true,if_false];exact q1
  subst hv0;have q2':List.length (α:=Int) x≤cap:=q2;by_cases hs:n≤(cap:Int)-List.length (α:=Int) x
  ·refine (zaVa A _ cap n w hb.1 hb.2 q2' (by omega) hs).mono fun e w' he=>?_
   obtain ⟨rfl,rfl⟩:=he;refine ⟨(),F,fps 0,fun _ _=>False,.inl ⟨_,(x,()),rfl,hK,⟨fun _=>i0,hr0⟩⟩,fun _ hb=>hb,Grew.refl _,fun _ _ _=>rfl,⟨⟨fun _ _ _ _ hb=>hb.elim⟩,fun _ _ hb=>hb.elim,trivial⟩,fun b hb=>?_,fun b hb=>⟨hFs b hb,.inl hb⟩⟩;rcases hb with hb|⟨_,hb⟩
   ·exact ⟨(hfp 0 b hb).1,(hfp 0 b hb).2,.inl ⟨0,hb⟩⟩
   ·exact hb.elim
  ·obtain ⟨m,hm⟩:∃m:Nat,n-((cap:Int)-List.length (α:=Int) x)=m:=⟨_,(Int.toNat_of_nonneg (by omega)).symm⟩
   have hgc:=grownCap_ge w (cap+m) cap 3;have hmx:=grownCap_le_maxLen w (cap+m) cap 3 (by unfold maxLen; omega);have hmx':grownCap w (cap+m) cap 3≤2 ^ 63-1:=hmx;have fin:∀(xs:List Value),xs.length=cap→(∀a,A=some a→∀j,j<List.length (α:=Int) x→xs.getD j undef=rowW w a.block (a.off+j) 0)→(A=none→(x:List Int)=[])→∀(e:Ending) (w':World),
     (e = .returned (.slice (some ⟨w.heap.size,0,none⟩) (List.length (α:=Int) x) (grownCap w (cap+m) cap 3))∧w'=w.drew.alloc (.cells (xs.toArray++(Builtin.zeroCells #[.int .i64 0] m++Builtin.zeroCells #[.int .i64 0] (grownCap w (cap+m) cap 3-(cap+m)))) 3)) →
     ∃rb,∃F' fo:Blks,∃fb:Nat→Blks,((∃v ro,e = .returned v∧K ro rb=some res∧ResR F' w' v fo (resS cs_slices_GrowInt.outs ro))∨(∃ch pi,e = .panicked ch∧Kp pi rb=some res∧PanR F' w' (PI.pan cs_slices_GrowInt.pan pi) ch))∧(∀b,F b→F' b)∧Grew w w'∧(∀b,b<w.heap.size→(∀i,¬fps i b)→Same w w' b) ∧
      (Disj fb∧(∀i b,fb i b→¬fo b)∧BackR F' w' cs_slices_GrowInt.ins rb [.slice A (List.length (α:=Int) x) cap,.int .i64 n] fb)∧(∀b,(fo b∨∃i,fb i b)→¬F' b∧b<w'.heap.size∧((∃i,fps i b)∨w.heap.size≤b))∧(∀b,F' b→b<w'.heap.size∧(F b∨(∃i,fps i b)∨w.heap.size≤b)):=by
    intro xs hl hx hA e w' he;obtain ⟨rfl,rfl⟩:=he;have hsz:(w.drew.alloc (.cells (xs.toArray++(Builtin.zeroCells #[.int .i64 0] m++Builtin.zeroCells #[.int .i64 0] (grownCap w (cap+m) cap 3-(cap+m)))) 3)).heap.size=w.heap.size+1:=World.size_alloc w.drew _;have hrep:=zdYa (m:=m) hr0 xs _ hgc hmx' hl q2' hx hA rfl;refine ⟨(),F,_,fun _ _=>False,.inl ⟨_,(x,()),rfl,hK,⟨fun _=>zbQa,hrep⟩⟩,fun _ hb=>hb,⟨⟨rfl,rfl,rfl⟩,by omega⟩,fun b hb _=>zPda (w:=w.drew) hb,⟨⟨fun _ _ _ _ hb=>hb.elim⟩,fun _ _ hb=>hb.elim,trivial⟩,fun b hb=>?_,fun b hb=>⟨?_,.inl hb⟩⟩
    ·rcases hb with (hb|⟨_,hb⟩)|⟨_,hb⟩
     ·subst hb;exact ⟨fun hc=>Nat.lt_irrefl _ (hFs _ hc),by omega,.inr (Nat.le_refl _)⟩
     ·exact hb.elim
     ·exact hb.elim
    ·have:=hFs b hb;omega
   cases A with
   |none =>
    have hc0:cap=0:=q4 rfl;subst hc0;refine (zLWa _ 0 m n w hb.1 hb.2 q2' (by omega) (by omega) hm).mono fun e w' he=>fin [] rfl nofun (fun _=>List.eq_nil_of_length_eq_zero (Nat.le_zero.1 q2')) e w' he
   |some a =>
    by_cases hc0:cap=0
    ·subst hc0;have hx0:(x:List Int)=[]:=List.eq_nil_of_length_eq_zero (Nat.le_zero.1 q2');refine (zOOa a _ 0 m n w hb.1 hb.2 q2' (by omega) (by omega) hm [] (by rfl)).mono fun e w' he=>fin [] rfl (fun a' _ j hj=>by rw[hx0]at hj; simp at hj) (fun _=>hx0) e w' he
    obtain ⟨hsp,p_gosem_cut,p_gosem_cut_init,_⟩:=q5 a rfl
    replace hsp:=hsp (by omega)
    obtain ⟨b,k,sp⟩:=a;simp only at hsp;subst hsp;simp only[Ty.size,Nat.mul_one]at p_gosem_cut p_gosem_cut_init;have hld:=run_loadCellsFrom (P:=Tryz.prog) (w:=w.drew) ⟨b,k,none⟩ (fun j=>rowW w b (k+j) 0) cap 0 #[] (fun j hj=>by
     rw[World.cell?_drew,zSfa,zZla p_gosem_cut_init (by omega)];simp only[rowW,Nat.zero_add,rowOf,Nat.add_zero])
    refine (zOOa _ _ cap m n w hb.1 hb.2 q2' (by omega) (by omega) hm ((List.range cap).map fun j=>rowW w b (k+j) 0) ?_).mono fun e w' he=>fin _ (by simp) (fun a ha j hj=>?_) nofun e w' he
    ·rw[hld];simp
    ·cases ha;have:j<cap:=by omega
     simp[List.getD,this]
 ·rw[decide_eq_false hb]at hcall';cases hcall'
noncomputable def zfMa:GE Tryz.prog:=⟨64,[],cs_slices_GrowInt,zYLa⟩
noncomputable def zTea:Env:=mE [zfMa] Tryz.f33
structure zrca where (f0:List Tl) (f3:Int) (f9:List Tl) (f10 f11:Int)
noncomputable def zgba (k_pan:Tb→Option R) (k_exit_0:(List Tl)→Int→Option R) (rec:zrca→Option R) (x:zrca):Option R :=
 cond (decide (x.f11<x.f10))
 (cond (inB x.f11 x.f9.length)
 (let v4:=IntKind.i64.wrap (x.f3+((List.length (x.f9.getD x.f11.toNat []):Nat):Int))
 cond (decide (v4<0))
 (k_pan ([108,101,110,32,111,117,116,32,111,102,32,114,97,110,103,101]:List UInt8))
 (rec ⟨x.f0,v4,x.f9,x.f10,(IntKind.i64.wrap (x.f11+1))⟩)) none)
 (k_exit_0 x.f0 x.f3)
noncomputable def zYDa (x:zrca):St:=St.ofList [(0,(a9 x.f0)),(3,(a0 x.f3)),(9,(a9 x.f9)),(10,(a0 x.f10)),(11,(a0 x.f11))]
def zcya:Ex→List (Nat×Bool) | .pan _=>[] | .exit 0=>[(0,false),(3,false)]|_=>[]
def zloa:List (Nat×Bool):=[(0,false),(3,false),(9,false),(10,false),(11,false)]
noncomputable def zLna:Pt zrca := .s 0 A4 fun y0 => .s 3 A0 fun y3 => .s 9 A4 fun y9 => .s 10 A0 fun y10 => .s 11 A0 fun y11 => .e ⟨y0,y3,y9,y10,y11⟩
noncomputable def zera (R:Type) (K:Ex→St→Option R):(zrca→Option R)→zrca→Option R:=zgba (fun y=>K (.pan ⟨9,.str,y⟩) (St.ofList [])) (fun e0 e3=>K (.exit 0) (St.ofList [(0,(a9 e0)),(3,(a0 e3))]))
structure X_slices_ConcatInt_11 where (f6:Tl) (f25:List Tl) (f26 f27:Int)
noncomputable def zmba (k_exit_2:Tl→Option R) (rec:X_slices_ConcatInt_11→Option R) (x:X_slices_ConcatInt_11):Option R :=
 cond (decide (x.f27<x.f26))
 (cond (inB x.f27 x.f25.length)
 (let v2:=x.f25.getD x.f27.toNat []
 cond (decide (x.f6.length+v2.length≤most))
 (rec ⟨(x.f6++v2),x.f25,x.f26,(IntKind.i64.wrap (x.f27+1))⟩) none) none)
 (k_exit_2 x.f6)
noncomputable def zLha:LB:=⟨[.d 6 A5,.d 25 A4,.d 26 A0,.d 27 A0],[((.exit 2),[.d 6 A5])]⟩
noncomputable def zroa:LF X_slices_ConcatInt_11:=fun _ K=>zmba (exS zLha 0 K)
noncomputable def zfka:Loops:=fun z i R st K=>match z,i with
 |false,3=>lpE zloa zLna (lpL zera K) st
 |false,11=>lpS zLha X_slices_ConcatInt_11.mk zroa K st
 |_,_=>none
theorem zxAa:LOk zTea zfka inl0 3 Tryz.f33:=zPoa (hd:=zloa) (out:=zcya) (S:=zYDa) (B:=zera) (p:=zLna) (i:=3) (fun _ _ _ _=>by kernel_rfl) (fun _ _ _ _ _=>⟨rfl,rfl⟩) (by kernel_rfl) fun _ _ _=>rfl
theorem zfya:LOk zTea zfka inl0 11 Tryz.f33:=lok zLha X_slices_ConcatInt_11.mk (fun x=>(x.f6,x.f25,x.f26,x.f27,())) zroa 11
theorem zpya:zsaa zTea zfka inl0 (body Tryz.f33.body):=lsL (.cons zxAa (.cons zfya .nil)) .nil
noncomputable def zsha (a0:List Tl) (K:Tl→Option R) (Kp:Tb→Option R):Option R :=
 loopN (zgba (fun y2 =>
 Kp y2) (fun w3 w4 =>
 zUpa [] w4 fun r5 =>
 loopN (zmba (fun w7 =>
 K w7)) zpaa ⟨r5,w3,(w3.length:Int),0⟩)) zpaa ⟨a0,0,a0,(a0.length:Int),0⟩
noncomputable def zasa:CSpec:={ ins:=[(.val (.sl 28 (.sl 3 (.int .i64))) .s)],outs:=[((.sl 3 (.int .i64)),(.o .s))],pan:=some (9,.str),fn:=fun d K Kp=>zsha d.1 (fun r0=>K ((r0,()):(List (Int))×Unit) ((()):Unit)) (fun y =>Kp (y:List UInt8) ((()):Unit)) }
theorem zQGa:Holds Tryz.prog 33 zasa:=hw zTea [(2,none)] zfaa Tryz.func33 zpya ⟨mixed,envTyOk.ty,envTyOk.eq⟩
noncomputable def zUWa:Env:={ E0 with n:=Tryz.f61.ntmps }
noncomputable def zLda (a0 a1:Int) (K:Bool→Option R):Option R :=
 cond (decide (a0≥0))
 (K (decide (a0<a1)))
 (K false)
noncomputable def zVMa:CSpec:={ ins:=[(.val (.int .i64) .s),(.val (.int .i64) .s)],outs:=[(.bool,.s)],fn:=fun d K _=>zLda d.1 d.2.1 (fun r0=>K (r0,()) ()) }
theorem zVVa:Holds Tryz.prog 61 zVMa:=hw zUWa [(4,none)] (lp:=lp0) (code:=body Tryz.f61.body) zfaa Tryz.func61 l0 ⟨mixed,envTyOk.ty,envTyOk.eq⟩
noncomputable def zWva:GE Tryz.prog:=⟨61,[],zVMa,zVVa⟩
noncomputable def zfFa:Env:={ E0 with n:=Tryz.f38.ntmps }
noncomputable def zUca (a0:Tl) (K:Tl→Option R):Option R :=
 let k1:Option R:=(cond (decide (List.length (List.replicate 0 (0:Int))+a0.length≤most))
 (K ((List.replicate 0 (0:Int))++a0)) none)
 cond (List.isEmpty a0)
 (both
 (K [])
 (let v1:=List.replicate 0 (0:Int)
 k1))
 (let v3:=List.replicate 0 (0:Int)
 k1)
noncomputable def zgua:CSpec:={ ins:=[(.val (.sl 3 (.int .i64)) .s)],outs:=[((.sl 3 (.int .i64)),(.o .s))],fn:=fun d K _=>zUca d.1 (fun r0=>K (r0,()) ()) }
theorem zGJa:Holds Tryz.prog 38 zgua:=hw zfFa [(2,none)] (lp:=lp0) (code:=body Tryz.f38.body) zfaa Tryz.func38 l0 ⟨mixed,envTyOk.ty,envTyOk.eq⟩
noncomputable def zQJa:GE Tryz.prog:=⟨38,[],zgua,zGJa⟩
noncomputable def zaTa:Nat→Bool
 |1=>true
 |_=>false
noncomputable def zjRa:Env:={ mE [zQJa] Tryz.f55 with fz:=zaTa }
noncomputable def zPea (a0:Tq) (K:Tq→Option R):Option R :=
 zUca a0.1 fun r1 =>
 zUca a0.2.1 fun r2 =>
 K (r1,(r2,()))
noncomputable def znIa:CSpec:={ ins:=[(.val (.pair (.sl 3 (.int .i64)) (.pair (.sl 3 (.int .i64)) .unit)) .s)],outs:=[((.pair (.sl 3 (.int .i64)) (.pair (.sl 3 (.int .i64)) .unit)),(.p (.o .s) (.p (.o .s) .s)))],fn:=fun d K _=>zPea d.1 (fun r0=>K (r0,()) ()) }
theorem zZUa:Holds Tryz.prog 55 znIa:=hw zjRa [(2,some 51)] (lp:=lp0) (code:=body Tryz.f55.body) zfaa Tryz.func55 l0 ⟨mixed,envTyOk.ty,envTyOk.eq⟩
noncomputable def zMDa:GE Tryz.prog:=⟨55,[],znIa,zZUa⟩
noncomputable def zrVa:Nat→Bool
 |2=>true
 |_=>false
noncomputable def zpTa:Env:={ mE [zWva,zMDa] Tryz.f111 with fz:=zrVa }
noncomputable def zIfa (a0:(List Tq)×(Tl)×It2) (a1:Int) (K:Tq→Bool→Option R):Option R :=
 cond (a1==(-64))
 (K ([],([],())) true)
 (cond (a1==(-1))
 (K ([],((List.set (List.replicate 1 (0:Int)) 0 127),())) true)
 (cond (a1==(-2))
 (K ([],((List.set (List.replicate 1 (0:Int)) 0 126),())) true)
 (zLda a1 (a0.1.length:Int) fun r7 =>
 cond r7
 (cond (inB a1 a0.1.length)
 (zPea (a0.1.getD a1.toNat ([],([],()))) fun r9 =>
 K r9 true) none)
 (K ([],([],())) false))))
noncomputable def zWMa:CSpec:={ ins:=[(.val (.pair Ty5 Ty9) .s),(.val (.int .i64) .s)],outs:=[((.pair (.sl 3 (.int .i64)) (.pair (.sl 3 (.int .i64)) .unit)),(.p (.o .s) (.p (.o .s) .s))),(.bool,.s)],fn:=fun d K _=>zIfa d.1 d.2.1 (fun r0 r1=>K (r0,r1,()) ()) }
theorem zKWa:Holds Tryz.prog 111 zWMa:=hw zpTa [(4,some 51),(5,none)] (lp:=lp0) (code:=body Tryz.f111.body) zfaa Tryz.func111 l0 ⟨mixed,envTyOk.ty,envTyOk.eq⟩
noncomputable def zPWa:GE Tryz.prog:=⟨111,[],zWMa,zKWa⟩
noncomputable def zTQa:Env:={ E0 with n:=Tryz.f69.ntmps }
noncomputable def zraa (a0:Bool) (a1:Int) (K:Option R) (Kp:Int→Option R):Option R :=
 cond (!a0)
 (Kp a1)
 (K)
noncomputable def zKHa:CSpec:={ ins:=[(.val .bool .s),(.val (.int .i64) .s)],outs:=[],pan:=some (46,(.int .i64)),fn:=fun d K Kp=>zraa d.1 d.2.1 (K ((()):Unit) ((()):Unit)) (fun y =>Kp (y:Int) ((()):Unit)) }
theorem zwUa:Holds Tryz.prog 69 zKHa:=hw zTQa [] (lp:=lp0) (code:=body Tryz.f69.body) zfaa Tryz.func69 l0 ⟨mixed,envTyOk.ty,envTyOk.eq⟩
noncomputable def zbea:GE Tryz.prog:=⟨69,[],zKHa,zwUa⟩
noncomputable def ztka:Env:={ E0 with n:=Tryz.f115.ntmps }
structure X_slices_EqualInt_4 where (f0 f1:Tl) (f12 f13:Int)
noncomputable def zoba (k_ret:Bool→Option R) (k_exit_0:Option R) (rec:X_slices_EqualInt_4→Option R) (x:X_slices_EqualInt_4):Option R :=
 cond (decide (x.f13<x.f12))
 (cond (inB x.f13 x.f0.length)
 (cond (inB x.f13 x.f1.length)
 (cond ((x.f0.getD x.f13.toNat 0) != (x.f1.getD x.f13.toNat 0))
 (k_ret false)
 (rec ⟨x.f0,x.f1,x.f12,(IntKind.i64.wrap (x.f13+1))⟩)) none) none)
 (k_exit_0)
noncomputable def zaga:LB:=⟨[.d 0 A2,.d 1 A2,.d 12 A0,.d 13 A0],[(.ret,[.d 4 A22]),((.exit 0),[])]⟩
noncomputable def zfsa:LF X_slices_EqualInt_4:=fun _ K=>zoba (exS zaga 0 K) (exS zaga 1 K)
noncomputable def zEta:Loops:=fun z i R st K=>match z,i with
 |false,4=>lpS zaga X_slices_EqualInt_4.mk zfsa K st
 |_,_=>none
theorem zjDa:LOk ztka zEta inl0 4 Tryz.f115:=lok zaga X_slices_EqualInt_4.mk (fun x=>(x.f0,x.f1,x.f12,x.f13,())) zfsa 4
theorem zEAa:zsaa ztka zEta inl0 (body Tryz.f115.body):=lsL (.cons zjDa .nil) .nil
noncomputable def zuia (a0 a1:Tl) (K:Bool→Option R):Option R :=
 cond ((a0.length:Int) != (a1.length:Int))
 (K false)
 (loopN (zoba (fun w5 =>
 K w5) (K true)) zpaa ⟨a0,a1,(a0.length:Int),0⟩)
noncomputable def zfua:CSpec:={ ins:=[(.val (.sl 3 (.int .i64)) .s),(.val (.sl 3 (.int .i64)) .s)],outs:=[(.bool,.s)],fn:=fun d K _=>zuia d.1 d.2.1 (fun r0=>K (r0,()) ()) }
theorem zFJa:Holds Tryz.prog 115 zfua:=hw ztka [(4,none)] zfaa Tryz.func115 zEAa ⟨mixed,envTyOk.ty,envTyOk.eq⟩
noncomputable def zPJa:GE Tryz.prog:=⟨115,[],zfua,zFJa⟩
noncomputable def zNDa:Nat→Bool
 |1=>true
 |_=>false
noncomputable def znBa:Env:={ E0 with n:=Tryz.f163.ntmps,fz:=zNDa }
noncomputable def zbga (a0:(Int)×(Tl)×(Tl)×(Int)×(Bool)×Unit) (K:Tl→Option R):Option R :=
 cond (a0.1==3)
 (K a0.2.1)
 (K a0.2.2.1)
noncomputable def zPqa:CSpec:={ ins:=[(.val (.pair (.int .i64) Ty10) .s)],outs:=[((.sl 3 (.int .i64)),.s)],fn:=fun d K _=>zbga d.1 (fun r0=>K (r0,()) ()) }
theorem zPEa:Holds Tryz.prog 163 zPqa:=hw znBa [(2,none)] (lp:=lp0) (code:=body Tryz.f163.body) zfaa Tryz.func163 l0 ⟨mixed,envTyOk.ty,envTyOk.eq⟩
noncomputable def zYEa:GE Tryz.prog:=⟨163,[],zPqa,zPEa⟩
noncomputable def zQWa:Nat→Bool
 |2=>true
 |_=>false
noncomputable def zuVa:Env:={ mE [zWva,zMDa] Tryz.f43 with fz:=zQWa }
noncomputable def zPga (a0:(List Tq)×(Tl)×It2) (a1:Int) (K:Tq→Bool→Option R):Option R :=
 zLda a1 (a0.2.1.length:Int) fun r2 =>
 cond (!r2)
 (K ([],([],())) false)
 (cond (inB a1 a0.2.1.length)
 (zLda (a0.2.1.getD a1.toNat 0) (a0.1.length:Int) fun r6 =>
 cond (!r6)
 (K ([],([],())) false)
 (cond (inB a1 a0.2.1.length)
 (let v8:=a0.2.1.getD a1.toNat 0
 cond (inB v8 a0.1.length)
 (zPea (a0.1.getD v8.toNat ([],([],()))) fun r10 =>
 K r10 true) none) none)) none)
noncomputable def zbPa:CSpec:={ ins:=[(.val (.pair Ty5 Ty9) .s),(.val (.int .i64) .s)],outs:=[((.pair (.sl 3 (.int .i64)) (.pair (.sl 3 (.int .i64)) .unit)),(.p (.o .s) (.p (.o .s) .s))),(.bool,.s)],fn:=fun d K _=>zPga d.1 d.2.1 (fun r0 r1=>K (r0,r1,()) ()) }
theorem zcYa:Holds Tryz.prog 43 zbPa:=hw zuVa [(4,some 51),(5,none)] (lp:=lp0) (code:=body Tryz.f43.body) zfaa Tryz.func43 l0 ⟨mixed,envTyOk.ty,envTyOk.eq⟩
noncomputable def zTSa:GE Tryz.prog:=⟨43,[],zbPa,zcYa⟩
noncomputable def zhTa:Env:=mE [zbea] Tryz.f118
noncomputable def zLaa (a0 a1:Int) (K:Option R) (Kp:Int→Option R):Option R :=
 cond (decide (a0≥0))
 (zraa (decide (a0<a1)) 7 (K)
 (fun y3 =>
 Kp y3))
 (zraa false 7 (K)
 (fun y4 =>
 Kp y4))
noncomputable def zHMa:CSpec:={ ins:=[(.val (.int .i64) .s),(.val (.int .i64) .s)],outs:=[],pan:=some (46,(.int .i64)),fn:=fun d K Kp=>zLaa d.1 d.2.1 (K ((()):Unit) ((()):Unit)) (fun y =>Kp (y:Int) ((()):Unit)) }
theorem zwWa:Holds Tryz.prog 118 zHMa:=hw zhTa [] (lp:=lp0) (code:=body Tryz.f118.body) zfaa Tryz.func118 l0 ⟨mixed,envTyOk.ty,envTyOk.eq⟩
noncomputable def zYza:GE Tryz.prog:=⟨118,[],zHMa,zwWa⟩
noncomputable def zuOa:Env:={ E0 with n:=Tryz.f120.ntmps }
noncomputable def zBma (K:Tl→Option R):Option R :=
 K (List.set (List.set (List.set (List.replicate 3 (0:Int)) 0 127) 1 127) 2 127)
noncomputable def zgFa:CSpec:={ ins:=[],outs:=[((.sl 3 (.int .i64)),(.o .s))],fn:=fun d K _=>zBma  (fun r0=>K ((r0,()):(List (Int))×Unit) ((()):Unit)) }
theorem zoSa:Holds Tryz.prog 120 zgFa:=hw zuOa [(0,none)] (lp:=lp0) (code:=body Tryz.f120.body) zfaa Tryz.func120 l0 ⟨mixed,envTyOk.ty,envTyOk.eq⟩
noncomputable def zGSa:GE Tryz.prog:=⟨120,[],zgFa,zoSa⟩
noncomputable def zcwa:Env:={ E0 with n:=Tryz.f65.ntmps }
noncomputable def ziaa (a0:It4) (a1:Tl) (K:It4→Option R):Option R :=
 cond (decide (a0.2.2.1.length+a1.length≤most))
 (K (a0.1,(a0.2.1,((a0.2.2.1++a1),a0.2.2.2)))) none
noncomputable def zyla:CSpec:={ ins:=[(.ref (.pair (.pair Ty5 Ty9) (.pair (.sl 3 (.int .i64)) Ty11)) (.p .s (.p (.o .s) (.p (.o .s) (.p (.o .s) .s)))) (.p .s (.p (.o .s) (.p (.o .s) (.p (.o .s) .s))))),(.val (.sl 3 (.int .i64)) .s)],outs:=[],fn:=fun d K _=>ziaa d.1 d.2.1 (fun b0=>K ((()):Unit) ((b0,()):It4×Unit)) }
theorem zMya:Holds Tryz.prog 65 zyla:=hw zcwa [] (lp:=lp0) (code:=body Tryz.f65.body) zfaa Tryz.func65 l0 ⟨mixed,envTyOk.ty,envTyOk.eq⟩
noncomputable def zOba:GE Tryz.prog:=⟨65,[],zyla,zMya⟩
noncomputable def zeua:Env:={ mE [zOba] Tryz.f34 with al:=[0,8,9,10,11,16,17,18,24,25,26] }
noncomputable def ztaa (a0:It4) (a1:Int) (a2 a3:Tl) (K:It4→Option R):Option R :=
 let k1:Option R:=(cond (decide (a0.2.2.2.1.length+List.length (List.set (List.replicate 1 ((0:Int),(([]:List (Int)),(([]:List (Int)),((0:Int),(false,())))))) 0 (a1,(a2,(a3,((a0.2.2.1.length:Int),(false,()))))))≤most))
 (ziaa (a0.1,(a0.2.1,(a0.2.2.1,((a0.2.2.2.1++(List.set (List.replicate 1 ((0:Int),(([]:List (Int)),(([]:List (Int)),((0:Int),(false,())))))) 0 (a1,(a2,(a3,((a0.2.2.1.length:Int),(false,()))))))),a0.2.2.2.2)))) a2 fun b4 =>
 K b4) none)
 both
 (k1)
 (let v5:=(a0.2.2.1.length:Int)
 both
 (k1)
 (k1))
noncomputable def zUea:CSpec:={ ins:=[(.ref (.pair (.pair Ty5 Ty9) (.pair (.sl 3 (.int .i64)) Ty11)) (.p .s (.p (.o .s) (.p (.o .s) (.p (.o .s) .s)))) (.p .s (.p (.o .s) (.p (.o .s) (.p (.o .s) .s))))),(.val (.int .i64) .s),(.val (.sl 3 (.int .i64)) .s),(.val (.sl 3 (.int .i64)) .s)],outs:=[],fn:=fun d K _=>ztaa d.1 d.2.1 d.2.2.1 d.2.2.2.1 (fun b0=>K ((()):Unit) ((b0,()):It4×Unit)) }
theorem zwla:Holds Tryz.prog 34 zUea:=hw zeua [] (lp:=lp0) (code:=body Tryz.f34.body) zfaa Tryz.func34 l0 ⟨mixed,envTyOk.ty,envTyOk.eq⟩
noncomputable def zxxa:GE Tryz.prog:=⟨34,[],zUea,zwla⟩
noncomputable def zRta:Nat→Bool
 |162=>true
 |_=>false
noncomputable def env_valid_checker_deadm1x0:Env:={ E0 with n:=Tryz.f162.ntmps,il:=zRta,b:=21 }
theorem zAra:InlF Tryz.prog env_valid_checker_deadm1x0.b 162 (fun R st xs K Kp=>match Nat.ble xs.length env_valid_checker_deadm1x0.n with|true=>evC env_valid_checker_deadm1x0 lp0 inl0 (body Tryz.f162.body) (st.enter env_valid_checker_deadm1x0.b xs) (inlK env_valid_checker_deadm1x0 [(2,none)] K Kp)|false=>none) :=
 zOwa mixed ⟨envTyOk.ty,envTyOk.eq⟩ (fun _ _ _ h=>by cases h) zfaa Tryz.func162 (by kernel_rfl) (by kernel_rfl) (by kernel_rfl) (by kernel_rfl) (by kernel_rfl) (zSga (by kernel_rfl) (by kernel_rfl)) (by kernel_rfl)
noncomputable def zfxa:Nat→Bool
 |14=>true
 |_=>false
noncomputable def zpxa:Nat→Bool
 |162=>true
 |_=>false
noncomputable def env_valid_checker_deadm1:Env:={ E0 with n:=Tryz.f110.ntmps,sb:=zfxa,il:=zpxa }
noncomputable def zrka:Inl:=fun f d R st xs K Kp=>match f,d with
 |162,some 4=>match Nat.ble xs.length env_valid_checker_deadm1x0.n with
  |true=>evC env_valid_checker_deadm1x0 lp0 inl0 (body Tryz.f162.body) (st.enter env_valid_checker_deadm1x0.b xs) (inlK env_valid_checker_deadm1x0 [(2,none)] K Kp)
  |false=>none
 |_,_=>none
theorem zgta:InlOk Tryz.prog env_valid_checker_deadm1.top zrka:=zCna fun f d=>by
 unfold zrka;split
 ·exact zAra
 ·exact zzia
noncomputable def zwaa (a0:It4) (K:It4→Option R):Option R :=
 let v2:=IntKind.i64.wrap ((a0.2.2.2.1.length:Int)-1)
 cond (inB v2 a0.2.2.2.1.length)
 (let k1:Option R:=(cond (inR 0 (((((a0.2.2.2.1.getD (IntKind.i64.wrap ((a0.2.2.2.1.length:Int)-1)).toNat (0,([],([],(0,(false,())))))).2).2).2).1) a0.2.2.1.length)
 (K (a0.1,(a0.2.1,((rng a0.2.2.1 0 (((((a0.2.2.2.1.getD (IntKind.i64.wrap ((a0.2.2.2.1.length:Int)-1)).toNat (0,([],([],(0,(false,())))))).2).2).2).1)),((List.set a0.2.2.2.1 v2.toNat ((a0.2.2.2.1.getD v2.toNat (0,([],([],(0,(false,())))))).1,(((a0.2.2.2.1.getD v2.toNat (0,([],([],(0,(false,())))))).2).1,((((a0.2.2.2.1.getD v2.toNat (0,([],([],(0,(false,())))))).2).2).1,(((((a0.2.2.2.1.getD v2.toNat (0,([],([],(0,(false,())))))).2).2).2).1,(true,(((((a0.2.2.2.1.getD v2.toNat (0,([],([],(0,(false,())))))).2).2).2).2).2)))))),a0.2.2.2.2))))) none)
 both
 (k1)
 (k1)) none
noncomputable def zBla:CSpec:={ ins:=[(.ref (.pair (.pair Ty5 Ty9) (.pair (.sl 3 (.int .i64)) Ty11)) (.p .s (.p (.o .s) (.p (.o .s) (.p (.o .s) .s)))) (.p .s (.p (.o .s) (.p (.o .s) (.p (.o .s) .s)))))],outs:=[],fn:=fun d K _=>zwaa d.1 (fun b0=>K ((()):Unit) ((b0,()):It4×Unit)) }
theorem zPya:Holds Tryz.prog 110 zBla:=hw env_valid_checker_deadm1 [] (lp:=lp0) (code:=body Tryz.f110.body) zgta Tryz.func110 l0 ⟨mixed,envTyOk.ty,envTyOk.eq⟩
noncomputable def zUma:GE Tryz.prog:=⟨110,[],zBla,zPya⟩
noncomputable def zPva:Nat→Bool
 |162=>true
 |_=>false
noncomputable def zqva:Nat→Option (List Nat)
 |0|1=>some [0,1,64,1000000]
 |_=>none
noncomputable def env_valid_checker_popm2x0:Env:={ E0 with n:=Tryz.f162.ntmps,il:=zPva,lv:=zqva,b:=64 }
theorem zhta:InlF Tryz.prog env_valid_checker_popm2x0.b 162 (fun R st xs K Kp=>match Nat.ble xs.length env_valid_checker_popm2x0.n with|true=>evC env_valid_checker_popm2x0 lp0 inl0 (body Tryz.f162.body) (st.enter env_valid_checker_popm2x0.b xs) (inlK env_valid_checker_popm2x0 [(2,none)] K Kp)|false=>none) :=
 zOwa mixed ⟨envTyOk.ty,envTyOk.eq⟩ (fun _ _ _ h=>by cases h) zfaa Tryz.func162 (by kernel_rfl) (by kernel_rfl) (by kernel_rfl) (by kernel_rfl) (by kernel_rfl) (zSga (by kernel_rfl) (by kernel_rfl)) (by kernel_rfl)
noncomputable def zSxa:Nat→Bool
 |47=>true
 |_=>false
noncomputable def zLya:Nat→Bool
 |162=>true
 |_=>false
noncomputable def zhya:Nat→Option (List Nat)
 |0|1|5=>some [0,1,1000000]
 |2=>some [0,1,5,1000000]
 |3=>some [5,1000000]
 |4=>some [1000000]
 |6=>some [0,1,6,1000000]
 |7=>some [1,6,1000000]
 |8=>some [6,1000000]
 |_=>none
noncomputable def env_valid_checker_popm2:Env:={ mE [zbea] Tryz.f112 with sb:=zSxa,il:=zLya,lv:=zhya }
noncomputable def zvla:Inl:=fun f d R st xs K Kp=>match f,d with
 |162,some 8=>match Nat.ble xs.length env_valid_checker_popm2x0.n with
  |true=>evC env_valid_checker_popm2x0 lp0 inl0 (body Tryz.f162.body) (st.enter env_valid_checker_popm2x0.b xs) (inlK env_valid_checker_popm2x0 [(2,none)] K Kp)
  |false=>none
 |_,_=>none
theorem zQta:InlOk Tryz.prog env_valid_checker_popm2.top zvla:=zCna fun f d=>by
 unfold zvla;split
 ·exact zhta
 ·exact zzia
noncomputable def zhaa (a0:It4) (a1:Int) (K Kp:Int→It4→Option R):Option R :=
 let v2:=IntKind.i64.wrap ((a0.2.2.2.1.length:Int)-1)
 cond (inB v2 a0.2.2.2.1.length)
 (cond ((a0.2.2.1.length:Int)==(((((a0.2.2.2.1.getD v2.toNat (0,([],([],(0,(false,())))))).2).2).2).1))
 (zraa ((((((a0.2.2.2.1.getD v2.toNat (0,([],([],(0,(false,())))))).2).2).2).2).1) 6 (K 0 a0)
 (fun y7 =>
 Kp y7 a0))
 (let v9:=IntKind.i64.wrap ((a0.2.2.1.length:Int)-1)
 cond (inB v9 a0.2.2.1.length)
 (let v10:=(a0.2.2.1.getD v9.toNat 0)
 let k1:Option R:=(cond (inR 0 (IntKind.i64.wrap ((a0.2.2.1.length:Int)-1)) a0.2.2.1.length)
 (let v13:=(rng a0.2.2.1 0 (IntKind.i64.wrap ((a0.2.2.1.length:Int)-1)))
 let k2:Option R:=(zraa true 6 (K v10 (a0.1,(a0.2.1,(v13,a0.2.2.2))))
 (fun y15 =>
 Kp y15 (a0.1,(a0.2.1,(v13,a0.2.2.2)))))
 cond (v10==a1)
 (k2)
 (cond (v10==0)
 (k2)
 (zraa (a1==0) 6 (K v10 (a0.1,(a0.2.1,(v13,a0.2.2.2))))
 (fun y19 =>
 Kp y19 (a0.1,(a0.2.1,(v13,a0.2.2.2))))))) none)
 both
 (k1)
 (k1)) none)) none
noncomputable def zXma:CSpec:={ ins:=[(.ref (.pair (.pair Ty5 Ty9) (.pair (.sl 3 (.int .i64)) Ty11)) (.p .s (.p (.o .s) (.p (.o .s) (.p (.o .s) .s)))) (.p .s (.p (.o .s) (.p (.o .s) (.p (.o .s) .s))))),(.val (.int .i64) .s)],outs:=[((.int .i64),.s)],pan:=some (46,(.int .i64)),fn:=fun d K Kp=>zhaa d.1 d.2.1 (fun r0 b0=>K ((r0,()):Int×Unit) ((b0,()):It4×Unit)) (fun y b0=>Kp (y:Int) ((b0,()):It4×Unit)) }
theorem zfBa:Holds Tryz.prog 112 zXma:=hw env_valid_checker_popm2 [(4,none)] (lp:=lp0) (code:=body Tryz.f112.body) zQta Tryz.func112 l0 ⟨mixed,envTyOk.ty,envTyOk.eq⟩
noncomputable def zhea:GE Tryz.prog:=⟨112,[],zXma,zfBa⟩
noncomputable def zSea:Env:={ mE [zhea] Tryz.f113 with al:=[0,19] }
structure zfba where (f1 f5:Tl) (f6:Int) (f1000000:It4)
noncomputable def zFaa (k_pan:Int→It4→Option R) (k_exit_0:Tl→It4→Option R) (rec:zfba→Option R) (x:zfba):Option R :=
 cond (decide (x.f6≥0))
 (cond (inB x.f6 x.f1.length)
 (zhaa x.f1000000 (x.f1.getD x.f6.toNat 0) (fun r3 b4 =>
 cond (inB x.f6 x.f5.length)
 (rec ⟨x.f1,(List.set x.f5 x.f6.toNat r3),(IntKind.i64.wrap (x.f6-1)),b4⟩) none)
 (fun y6 b7 =>
 k_pan y6 b7)) none)
 (k_exit_0 x.f5 x.f1000000)
noncomputable def zqwa (x:zfba):St:=St.ofList [(0,(.al 1000000 [.der])),(1,(a4 x.f1)),(5,(a1 x.f5)),(6,(a0 x.f6)),(1000000,(a10 (some x.f1000000)))]
def zRsa:Ex→List (Nat×Bool) | .pan _=>[(1000000,false)] | .exit 0=>[(5,false),(1000000,false)]|_=>[]
def zsja:List (Nat×Bool):=[(0,false),(1,false),(5,false),(6,false),(1000000,false)]
noncomputable def zija:Pt zfba := .s 0 (sAl 1000000 [.der]) fun _ => .s 1 A2 fun y1 => .s 5 A5 fun y5 => .s 6 A0 fun y6 => .s 1000000 B3 fun y1000000 => .e ⟨y1,y5,y6,y1000000⟩
noncomputable def zLka (R:Type) (K:Ex→St→Option R):(zfba→Option R)→zfba→Option R:=zFaa (fun y e1000000=>K (.pan ⟨46,(.int .i64),y⟩) (St.ofList [(1000000,(a10 (some e1000000)))])) (fun e5 e1000000=>K (.exit 0) (St.ofList [(5,(a1 e5)),(1000000,(a10 (some e1000000)))]))
noncomputable def zhla:Loops:=fun z i R st K=>match z,i with
 |false,3=>lpE zsja zija (lpL zLka K) st
 |_,_=>none
theorem zBta:LOk zSea zhla inl0 3 Tryz.f113:=zPoa (hd:=zsja) (out:=zRsa) (S:=zqwa) (B:=zLka) (p:=zija) (i:=3) (fun _ _ _ _=>by kernel_rfl) (fun _ _ _ _ _=>⟨rfl,rfl⟩) (by kernel_rfl) fun _ _ _=>rfl
theorem zXsa:zsaa zSea zhla inl0 (body Tryz.f113.body):=lsL (.cons zBta .nil) .nil
noncomputable def zcaa (a0:It4) (a1:Tl) (K:Tl→It4→Option R) (Kp:Int→It4→Option R):Option R :=
 let v1:=(a1.length:Int)
 cond (inR v1 v1 most)
 (let v2:=List.replicate v1.toNat (0:Int)
 loopN (zFaa (fun y6 w5 =>
 Kp y6 w5) (fun w7 w8 =>
 K w7 w8)) zpaa ⟨a1,v2,(IntKind.i64.wrap ((a1.length:Int)-1)),a0⟩) none
noncomputable def zzla:CSpec:={ ins:=[(.ref (.pair (.pair Ty5 Ty9) (.pair (.sl 3 (.int .i64)) Ty11)) (.p .s (.p (.o .s) (.p (.o .s) (.p (.o .s) .s)))) (.p .s (.p (.o .s) (.p (.o .s) (.p (.o .s) .s))))),(.val (.sl 3 (.int .i64)) .s)],outs:=[((.sl 3 (.int .i64)),(.o .s))],pan:=some (46,(.int .i64)),fn:=fun d K Kp=>zcaa d.1 d.2.1 (fun r0 b0=>K ((r0,()):(List (Int))×Unit) ((b0,()):It4×Unit)) (fun y b0=>Kp (y:Int) ((b0,()):It4×Unit)) }
theorem zNya:Holds Tryz.prog 113 zzla:=hw zSea [(4,none)] zfaa Tryz.func113 zXsa ⟨mixed,envTyOk.ty,envTyOk.eq⟩
noncomputable def zBca:GE Tryz.prog:=⟨113,[],zzla,zNya⟩
noncomputable def zita:Nat→Bool
 |162=>true
 |_=>false
noncomputable def env_valid_checker_leavem2x0:Env:={ E0 with n:=Tryz.f162.ntmps,il:=zita,b:=37 }
theorem zvqa:InlF Tryz.prog env_valid_checker_leavem2x0.b 162 (fun R st xs K Kp=>match Nat.ble xs.length env_valid_checker_leavem2x0.n with|true=>evC env_valid_checker_leavem2x0 lp0 inl0 (body Tryz.f162.body) (st.enter env_valid_checker_leavem2x0.b xs) (inlK env_valid_checker_leavem2x0 [(2,none)] K Kp)|false=>none) :=
 zOwa mixed ⟨envTyOk.ty,envTyOk.eq⟩ (fun _ _ _ h=>by cases h) zfaa Tryz.func162 (by kernel_rfl) (by kernel_rfl) (by kernel_rfl) (by kernel_rfl) (by kernel_rfl) (zSga (by kernel_rfl) (by kernel_rfl)) (by kernel_rfl)
noncomputable def zawa:Nat→Bool
 |3=>true
 |_=>false
noncomputable def zKua:Nat→Bool
 |32=>true
 |_=>false
noncomputable def zQva:Nat→Bool
 |162=>true
 |_=>false
noncomputable def env_valid_checker_leavem2:Env:={ mE [zBca,zbea] Tryz.f114 with fs:=zawa,sb:=zKua,il:=zQva,al:=[0,4,8] }
noncomputable def zrja:Inl:=fun f d R st xs K Kp=>match f,d with
 |162,some 5=>match Nat.ble xs.length env_valid_checker_leavem2x0.n with
  |true=>evC env_valid_checker_leavem2x0 lp0 inl0 (body Tryz.f162.body) (st.enter env_valid_checker_leavem2x0.b xs) (inlK env_valid_checker_leavem2x0 [(2,none)] K Kp)
  |false=>none
 |_,_=>none
theorem zyra:InlOk Tryz.prog env_valid_checker_leavem2.top zrja:=zCna fun f d=>by
 unfold zrja;split
 ·exact zvqa
 ·exact zzia
noncomputable def zyaa (a0:It4) (K:((Int)×(Tl)×(Tl)×(Int)×(Bool)×Unit)→It4→Option R) (Kp:Int→It4→Option R):Option R :=
 let v2:=IntKind.i64.wrap ((a0.2.2.2.1.length:Int)-1)
 cond (inB v2 a0.2.2.2.1.length)
 (let v3:=(a0.2.2.2.1.getD v2.toNat (0,([],([],(0,(false,()))))))
 zcaa a0 v3.2.2.1 (fun r4 b5 =>
 zraa ((b5.2.2.1.length:Int)==v3.2.2.2.1) 6 (let k1:Option R:=(cond (inR 0 (IntKind.i64.wrap ((b5.2.2.2.1.length:Int)-1)) b5.2.2.2.1.length)
 (K v3 (b5.1,(b5.2.1,(b5.2.2.1,((rng b5.2.2.2.1 0 (IntKind.i64.wrap ((b5.2.2.2.1.length:Int)-1))),b5.2.2.2.2))))) none)
 both
 (k1)
 (k1))
 (fun y14 =>
 Kp y14 b5))
 (fun y15 b16 =>
 Kp y15 b16)) none
noncomputable def zwka:CSpec:={ ins:=[(.ref (.pair (.pair Ty5 Ty9) (.pair (.sl 3 (.int .i64)) Ty11)) (.p .s (.p (.o .s) (.p (.o .s) (.p (.o .s) .s)))) (.p .s (.p (.o .s) (.p (.o .s) (.p (.o .s) .s)))))],outs:=[((.pair (.int .i64) Ty10),.s)],pan:=some (46,(.int .i64)),fn:=fun d K Kp=>zyaa d.1 (fun r0 b0=>K ((r0,()):((Int)×(List (Int))×(List (Int))×(Int)×(Bool)×Unit)×Unit) ((b0,()):It4×Unit)) (fun y b0=>Kp (y:Int) ((b0,()):It4×Unit)) }
theorem zrxa:Holds Tryz.prog 114 zwka:=hw env_valid_checker_leavem2 [(2,some 158)] (lp:=lp0) (code:=body Tryz.f114.body) zyra Tryz.func114 l0 ⟨mixed,envTyOk.ty,envTyOk.eq⟩
noncomputable def zwxa:GE Tryz.prog:=⟨114,[],zwka,zrxa⟩
noncomputable def zdua:Env:=mE [zbea,zYEa] Tryz.f116
noncomputable def znaa (a0:It4) (a1:Int) (K:Tl→It4→Option R) (Kp:Int→It4→Option R):Option R :=
 let k1:Option R:=(let k2:Option R:=(cond (inB (IntKind.i64.wrap ((IntKind.i64.wrap ((a0.2.2.2.1.length:Int)-1))-a1)) a0.2.2.2.1.length)
 (zbga (a0.2.2.2.1.getD (IntKind.i64.wrap ((IntKind.i64.wrap ((a0.2.2.2.1.length:Int)-1))-a1)).toNat (0,([],([],(0,(false,())))))) fun r8 =>
 K r8 a0) none)
 both
 (k2)
 (k2))
 cond (decide (a1≥0))
 (zraa (decide (a1<(a0.2.2.2.1.length:Int))) 7 (k1)
 (fun y14 =>
 Kp y14 a0))
 (zraa false 7 (k1)
 (fun y25 =>
 Kp y25 a0))
noncomputable def zxka:CSpec:={ ins:=[(.ref (.pair (.pair Ty5 Ty9) (.pair (.sl 3 (.int .i64)) Ty11)) (.p .s (.p (.o .s) (.p (.o .s) (.p (.o .s) .s)))) (.p .s (.p (.o .s) (.p (.o .s) (.p (.o .s) .s))))),(.val (.int .i64) .s)],outs:=[((.sl 3 (.int .i64)),.s)],pan:=some (46,(.int .i64)),fn:=fun d K Kp=>znaa d.1 d.2.1 (fun r0 b0=>K ((r0,()):(List (Int))×Unit) ((b0,()):It4×Unit)) (fun y b0=>Kp (y:Int) ((b0,()):It4×Unit)) }
theorem zsxa:Holds Tryz.prog 116 zxka:=hw zdua [(4,none)] (lp:=lp0) (code:=body Tryz.f116.body) zfaa Tryz.func116 l0 ⟨mixed,envTyOk.ty,envTyOk.eq⟩
noncomputable def zxla:GE Tryz.prog:=⟨116,[],zxka,zsxa⟩
noncomputable def zdwa:Env:={ mE [zBca,zOba] Tryz.f70 with al:=[0,6,9] }
noncomputable def zlaa (a0:It4) (a1 a2:Tl) (K:It4→Option R) (Kp:Int→It4→Option R):Option R :=
 zcaa a0 a1 (fun r1 b2 =>
 ziaa b2 a2 fun b3 =>
 K b3)
 (fun y4 b5 =>
 Kp y4 b5)
noncomputable def zAla:CSpec:={ ins:=[(.ref (.pair (.pair Ty5 Ty9) (.pair (.sl 3 (.int .i64)) Ty11)) (.p .s (.p (.o .s) (.p (.o .s) (.p (.o .s) .s)))) (.p .s (.p (.o .s) (.p (.o .s) (.p (.o .s) .s))))),(.val (.sl 3 (.int .i64)) .s),(.val (.sl 3 (.int .i64)) .s)],outs:=[],pan:=some (46,(.int .i64)),fn:=fun d K Kp=>zlaa d.1 d.2.1 d.2.2.1 (fun b0=>K ((()):Unit) ((b0,()):It4×Unit)) (fun y b0=>Kp (y:Int) ((b0,()):It4×Unit)) }
theorem zOya:Holds Tryz.prog 70 zAla:=hw zdwa [] (lp:=lp0) (code:=body Tryz.f70.body) zfaa Tryz.func70 l0 ⟨mixed,envTyOk.ty,envTyOk.eq⟩
noncomputable def zUga:GE Tryz.prog:=⟨70,[],zAla,zOya⟩
noncomputable def zYva:Nat→Bool
 |3=>true
 |_=>false
noncomputable def zHca:Env:={ mE [zxla,zhea,zbea,zBca,zOba,zUma] Tryz.f117 with fz:=zYva,al:=[0,10,21,25,34,43,44,49,52] }
structure zrba where (f3:Ti) (f4 f15:Tl) (f16 f17:Int) (f1000000:It4)
noncomputable def zRca (k_pan:Int→It4→Option R) (k_exit_0:Ti→Tl→It4→Option R) (rec:zrba→Option R) (x:zrba):Option R :=
 cond (decide (x.f17<x.f16))
 (cond (inB x.f17 x.f15.length)
 (znaa x.f1000000 (x.f15.getD x.f17.toNat 0) (fun r3 b4 =>
 rec ⟨x.f3,x.f4,x.f15,x.f16,(IntKind.i64.wrap (x.f17+1)),b4⟩)
 (fun y6 b7 =>
 k_pan y6 b7)) none)
 (k_exit_0 x.f3 x.f4 x.f1000000)
noncomputable def zoua (x:zrba):St:=St.ofList [(0,(.al 1000000 [.der])),(3,(a6 (some x.f3))),(4,(a4 x.f4)),(15,(a4 x.f15)),(16,(a0 x.f16)),(17,(a0 x.f17)),(1000000,(a10 (some x.f1000000)))]
def zmra:Ex→List (Nat×Bool) | .pan _=>[(1000000,false)] | .exit 0=>[(0,false),(3,false),(4,false),(1000000,false)]|_=>[]
def zcia:List (Nat×Bool):=[(0,false),(3,false),(4,false),(15,false),(16,false),(17,false),(1000000,false)]
noncomputable def zUha:Pt zrba := .s 0 (sAl 1000000 [.der]) fun _ => .s 3 B1 fun y3 => .s 4 A2 fun y4 => .s 15 A2 fun y15 => .s 16 A0 fun y16 => .s 17 A0 fun y17 => .s 1000000 B3 fun y1000000 => .e ⟨y3,y4,y15,y16,y17,y1000000⟩
noncomputable def zxja (R:Type) (K:Ex→St→Option R):(zrba→Option R)→zrba→Option R:=zRca (fun y e1000000=>K (.pan ⟨46,(.int .i64),y⟩) (St.ofList [(1000000,(a10 (some e1000000)))])) (fun e3 e4 e1000000=>K (.exit 0) (St.ofList [(0,(.al 1000000 [.der])),(3,(a6 (some e3))),(4,(a4 e4)),(1000000,(a10 (some e1000000)))]))
structure zqba where (f4 f28:Tl) (f29 f30:Int) (f1000000:It4)
noncomputable def zSba (k_pan:Int→It4→Option R) (k_exit_2:Tl→It4→Option R) (rec:zqba→Option R) (x:zqba):Option R :=
 cond (decide (x.f30<x.f29))
 (cond (inB x.f30 x.f28.length)
 (znaa x.f1000000 (x.f28.getD x.f30.toNat 0) (fun r3 b4 =>
 zraa ((r3.length:Int)==(x.f4.length:Int)) 6 (zcaa b4 r3 (fun r8 b9 =>
 ziaa b9 r8 fun b10 =>
 rec ⟨x.f4,x.f28,x.f29,(IntKind.i64.wrap (x.f30+1)),b10⟩)
 (fun y12 b13 =>
 k_pan y12 b13))
 (fun y14 =>
 k_pan y14 b4))
 (fun y15 b16 =>
 k_pan y15 b16)) none)
 (k_exit_2 x.f4 x.f1000000)
noncomputable def znua (x:zqba):St:=St.ofList [(0,(.al 1000000 [.der])),(4,(a4 x.f4)),(28,(a4 x.f28)),(29,(a0 x.f29)),(30,(a0 x.f30)),(1000000,(a10 (some x.f1000000)))]
def zlra:Ex→List (Nat×Bool) | .pan _=>[(1000000,false)] | .exit 2=>[(0,false),(4,false),(1000000,false)]|_=>[]
def zbia:List (Nat×Bool):=[(0,false),(4,false),(28,false),(29,false),(30,false),(1000000,false)]
noncomputable def zTha:Pt zqba := .s 0 (sAl 1000000 [.der]) fun _ => .s 4 A2 fun y4 => .s 28 A2 fun y28 => .s 29 A0 fun y29 => .s 30 A0 fun y30 => .s 1000000 B3 fun y1000000 => .e ⟨y4,y28,y29,y30,y1000000⟩
noncomputable def zwja (R:Type) (K:Ex→St→Option R):(zqba→Option R)→zqba→Option R:=zSba (fun y e1000000=>K (.pan ⟨46,(.int .i64),y⟩) (St.ofList [(1000000,(a10 (some e1000000)))])) (fun e4 e1000000=>K (.exit 2) (St.ofList [(0,(.al 1000000 [.der])),(4,(a4 e4)),(1000000,(a10 (some e1000000)))]))
noncomputable def zQea:Loops:=fun z i R st K=>match z,i with
 |false,3=>lpE zcia zUha (lpL zxja K) st
 |false,9=>lpE zbia zTha (lpL zwja K) st
 |_,_=>none
theorem zTsa:LOk zHca zQea inl0 3 Tryz.f117:=zPoa (hd:=zcia) (out:=zmra) (S:=zoua) (B:=zxja) (p:=zUha) (i:=3) (fun _ _ _ _=>by kernel_rfl) (fun _ _ _ _ _ _ _=>⟨rfl,rfl⟩) (by kernel_rfl) fun _ _ _=>rfl
theorem zSsa:LOk zHca zQea inl0 9 Tryz.f117:=zPoa (hd:=zbia) (out:=zlra) (S:=znua) (B:=zwja) (p:=zTha) (i:=9) (fun _ _ _ _=>by kernel_rfl) (fun _ _ _ _ _ _=>⟨rfl,rfl⟩) (by kernel_rfl) fun _ _ _=>rfl
theorem zrra:zsaa zHca zQea inl0 (body Tryz.f117.body):=lsL (.cons zTsa (.cons zSsa .nil)) .nil
noncomputable def ztda (a0:It4) (a1:Ti) (K:It4→Option R) (Kp:Int→It4→Option R):Option R :=
 znaa a0 a1.2.1 (fun r1 b2 =>
 loopN (zRca (fun y5 w4 =>
 Kp y5 w4) (fun w6 w7 w8 =>
 zhaa w8 127 (fun r9 b10 =>
 loopN (zSba (fun y13 w12 =>
 Kp y13 w12) (fun w14 w15 =>
 zcaa w15 w14 (fun r16 b17 =>
 zwaa b17 fun b18 =>
 K b18)
 (fun y19 b20 =>
 Kp y19 b20))) zpaa ⟨w7,w6.2.2.2.2.1,(w6.2.2.2.2.1.length:Int),0,b10⟩)
 (fun y21 b22 =>
 Kp y21 b22))) zpaa ⟨a1,r1,a1.2.2.2.2.1,(a1.2.2.2.2.1.length:Int),0,b2⟩)
 (fun y23 b24 =>
 Kp y23 b24)
noncomputable def zvka:CSpec:={ ins:=[(.ref (.pair (.pair Ty5 Ty9) (.pair (.sl 3 (.int .i64)) Ty11)) (.p .s (.p (.o .s) (.p (.o .s) (.p (.o .s) .s)))) (.p .s (.p (.o .s) (.p (.o .s) (.p (.o .s) .s))))),(.val (.pair (.int .i64) (.pair (.int .i64) Ty0)) .s)],outs:=[],pan:=some (46,(.int .i64)),fn:=fun d K Kp=>ztda d.1 d.2.1 (fun b0=>K ((()):Unit) ((b0,()):It4×Unit)) (fun y b0=>Kp (y:Int) ((b0,()):It4×Unit)) }
theorem zqxa:Holds Tryz.prog 117 zvka:=hw zHca [] zfaa Tryz.func117 zrra ⟨mixed,envTyOk.ty,envTyOk.eq⟩
noncomputable def zvxa:GE Tryz.prog:=⟨117,[],zvka,zqxa⟩
noncomputable def zota:Nat→Bool
 |3=>true
 |_=>false
noncomputable def zpta:Nat→Bool
 |5=>true
 |7=>true
 |8=>true
 |10=>true
 |12=>true
 |_=>false
noncomputable def zbta:Nat→Bool
 |10=>true
 |13=>true
 |21=>true
 |36=>true
 |40=>true
 |41=>true
 |44=>true
 |_=>false
noncomputable def zVsa:Nat→Option (List Nat)
 |0=>some [0,1,1000000]
 |1|9|23|26|30|35|39|40|41=>some [0,3,1000000]
 |2|44=>some [1000000]
 |3|5|6|7|8|15|18|22|25|29|31|34|38=>some [0,3,14,1000000]
 |4|16|19|24|32|33=>some [0,1000000]
 |10=>some [0,3,5,6,1000000]
 |11|12|13|14=>some [0,3,5,1000000]
 |17=>some [0,7,1000000]
 |20|21=>some [0,8,1000000]
 |27|28=>some [0,9,1000000]
 |36=>some [0,10,11,1000000]
 |37=>some [0,10,1000000]
 |42|43=>some [0,12,1000000]
 |_=>none
noncomputable def zjaa:Env:={ mE [zUma,zPWa,zbea,zhea,zBca,zxxa,zwxa,zPJa,zOba,zxla,zUga,zvxa,zTSa,zYza] Tryz.f66 with fz:=zota,fs:=zpta,js:=zbta,lv:=zVsa,al:=[0,17,40,42,46,56,58,66,79,85,86,91,95,99,101,107,112,113,114,115,121,137,163,164,165,166,172,174] }
structure zaba where (f3:Ti) (f1000000:It4)
noncomputable def zxba (k_normal:Ti→Tq→Bool→It4→Option R) (x:zaba):Option R :=
 zIfa x.f1000000.1 x.f3.2.1 fun r1 r2 =>
 k_normal x.f3 r1 r2 x.f1000000
noncomputable def znda (k_normal:Ti→Tq→Bool→It4→Option R) (x:zaba):Option R :=
 both
 (both
 (zIfa x.f1000000.1 x.f3.2.1 fun r1 r2 =>
 k_normal x.f3 r1 r2 x.f1000000)
 (zIfa x.f1000000.1 x.f3.2.1 fun r3 r4 =>
 k_normal x.f3 r3 r4 x.f1000000))
 (zIfa x.f1000000.1 x.f3.2.1 fun r5 r6 =>
 k_normal x.f3 r5 r6 x.f1000000)
theorem zona {R:Type} (k_normal:((Int)×(Int)×(Int)×(Int)×(List (Int))×Unit)→((List (Int))×(List (Int))×Unit)→Bool→It4→Option R) (x:zaba):znda (R:=R) k_normal x=zxba (R:=R) k_normal x:=by
 unfold znda zxba;simp only[zKaa]
noncomputable def zZga (x:zaba):St:=St.ofList [(0,(.al 1000000 [.der])),(3,(a6 (some x.f3))),(1000000,(a10 (some x.f1000000)))]
def zrfa:Ex→List (Nat×Bool) | .normal=>[(0,false),(3,false),(5,false),(6,false),(1000000,false)]|_=>[]
def zFfa:List (Nat×Bool):=[(0,false),(3,false),(1000000,false)]
noncomputable def zyfa:Pt zaba := .s 0 (sAl 1000000 [.der]) fun _ => .s 3 B1 fun y3 => .s 1000000 B3 fun y1000000 => .e ⟨y3,y1000000⟩
noncomputable def zlga (R:Type) (K:Ex→St→Option R):zaba→Option R:=zxba (fun e3 e5 e6 e1000000=>K .normal (St.ofList [(0,(.al 1000000 [.der])),(3,(a6 (some e3))),(5,(a11 (some e5))),(6,(a2 e6)),(1000000,(a10 (some e1000000)))]))
structure zhca where (f3:Ti) (f5:Tq) (f1000000:It4)
noncomputable def zBaa (k_normal:Ti→Tq→It4→Option R) (k_pan:Int→It4→Option R) (x:zhca):Option R :=
 cond (x.f3.1==4)
 (zhaa x.f1000000 127 (fun r2 b3 =>
 k_normal x.f3 x.f5 b3)
 (fun y4 b5 =>
 k_pan y4 b5))
 (k_normal x.f3 x.f5 x.f1000000)
noncomputable def zbra (x:zhca):St:=St.ofList [(0,(.al 1000000 [.der])),(3,(a6 (some x.f3))),(5,(a11 (some x.f5))),(1000000,(a10 (some x.f1000000)))]
def zuna:Ex→List (Nat×Bool) | .normal=>[(0,false),(3,false),(5,false),(1000000,false)] | .pan _=>[(1000000,false)]|_=>[]
def zEfa:List (Nat×Bool):=[(0,false),(3,false),(5,false),(1000000,false)]
noncomputable def zxfa:Pt zhca := .s 0 (sAl 1000000 [.der]) fun _ => .s 3 B1 fun y3 => .s 5 B4 fun y5 => .s 1000000 B3 fun y1000000 => .e ⟨y3,y5,y1000000⟩
noncomputable def zkga (R:Type) (K:Ex→St→Option R):zhca→Option R:=zBaa (fun e3 e5 e1000000=>K .normal (St.ofList [(0,(.al 1000000 [.der])),(3,(a6 (some e3))),(5,(a11 (some e5))),(1000000,(a10 (some e1000000)))])) (fun y e1000000=>K (.pan ⟨46,(.int .i64),y⟩) (St.ofList [(1000000,(a10 (some e1000000)))]))
structure zgca where (f8:(Int)×(Tl)×(Tl)×(Int)×(Bool)×Unit) (f1000000:It4)
noncomputable def zIaa (k_normal:((Int)×(Tl)×(Tl)×(Int)×(Bool)×Unit)→It4→Option R) (k_pan:Int→It4→Option R) (x:zgca):Option R :=
 cond (x.f8.1 != 4)
 (zraa true 6 (k_normal x.f8 x.f1000000)
 (fun y2 =>
 k_pan y2 x.f1000000))
 (zuia x.f8.2.1 x.f8.2.2.1 fun r3 =>
 zraa r3 6 (k_normal x.f8 x.f1000000)
 (fun y4 =>
 k_pan y4 x.f1000000))
noncomputable def zara (x:zgca):St:=St.ofList [(0,(.al 1000000 [.der])),(8,(a12 (some x.f8))),(1000000,(a10 (some x.f1000000)))]
def ztna:Ex→List (Nat×Bool) | .normal=>[(0,false),(8,false),(1000000,false)] | .pan _=>[(1000000,false)]|_=>[]
def zDfa:List (Nat×Bool):=[(0,false),(8,false),(1000000,false)]
noncomputable def zwfa:Pt zgca := .s 0 (sAl 1000000 [.der]) fun _ => .s 8 B5 fun y8 => .s 1000000 B3 fun y1000000 => .e ⟨y8,y1000000⟩
noncomputable def zjga (R:Type) (K:Ex→St→Option R):zgca→Option R:=zIaa (fun e8 e1000000=>K .normal (St.ofList [(0,(.al 1000000 [.der])),(8,(a12 (some e8))),(1000000,(a10 (some e1000000)))])) (fun y e1000000=>K (.pan ⟨46,(.int .i64),y⟩) (St.ofList [(1000000,(a10 (some e1000000)))]))
structure zZaa where (f3:Ti) (f1000000:It4)
noncomputable def zwba (k_normal:Tq→Bool→It4→Option R) (x:zZaa):Option R :=
 zPga x.f1000000.1 x.f3.2.1 fun r1 r2 =>
 k_normal r1 r2 x.f1000000
noncomputable def zmda (k_normal:Tq→Bool→It4→Option R) (x:zZaa):Option R :=
 both
 (both
 (zPga x.f1000000.1 x.f3.2.1 fun r1 r2 =>
 k_normal r1 r2 x.f1000000)
 (zPga x.f1000000.1 x.f3.2.1 fun r3 r4 =>
 k_normal r3 r4 x.f1000000))
 (zPga x.f1000000.1 x.f3.2.1 fun r5 r6 =>
 k_normal r5 r6 x.f1000000)
theorem znna {R:Type} (k_normal:((List (Int))×(List (Int))×Unit)→Bool→It4→Option R) (x:zZaa):zmda (R:=R) k_normal x=zwba (R:=R) k_normal x:=by
 unfold zmda zwba;simp only[zKaa]
noncomputable def zYga (x:zZaa):St:=St.ofList [(0,(.al 1000000 [.der])),(3,(a6 (some x.f3))),(1000000,(a10 (some x.f1000000)))]
def zqfa:Ex→List (Nat×Bool) | .normal=>[(0,false),(10,false),(11,false),(1000000,false)]|_=>[]
def zCfa:List (Nat×Bool):=[(0,false),(3,false),(1000000,false)]
noncomputable def zvfa:Pt zZaa := .s 0 (sAl 1000000 [.der]) fun _ => .s 3 B1 fun y3 => .s 1000000 B3 fun y1000000 => .e ⟨y3,y1000000⟩
noncomputable def ziga (R:Type) (K:Ex→St→Option R):zZaa→Option R:=zwba (fun e10 e11 e1000000=>K .normal (St.ofList [(0,(.al 1000000 [.der])),(10,(a11 (some e10))),(11,(a2 e11)),(1000000,(a10 (some e1000000)))]))
structure zfca where (f3:Ti) (f1000000:It4)
noncomputable def zpda (k_normal:Ti→It4→Option R) (k_pan:Int→It4→Option R) (x:zfca):Option R :=
 zLaa x.f3.2.1 (x.f1000000.1.1.length:Int) (k_normal x.f3 x.f1000000)
 (fun y2 =>
 k_pan y2 x.f1000000)
noncomputable def zZqa (x:zfca):St:=St.ofList [(0,(.al 1000000 [.der])),(3,(a6 (some x.f3))),(1000000,(a10 (some x.f1000000)))]
def zsna:Ex→List (Nat×Bool) | .normal=>[(0,false),(3,false),(1000000,false)] | .pan _=>[(1000000,false)]|_=>[]
def zBfa:List (Nat×Bool):=[(0,false),(3,false),(1000000,false)]
noncomputable def zufa:Pt zfca := .s 0 (sAl 1000000 [.der]) fun _ => .s 3 B1 fun y3 => .s 1000000 B3 fun y1000000 => .e ⟨y3,y1000000⟩
noncomputable def zhga (R:Type) (K:Ex→St→Option R):zfca→Option R:=zpda (fun e3 e1000000=>K .normal (St.ofList [(0,(.al 1000000 [.der])),(3,(a6 (some e3))),(1000000,(a10 (some e1000000)))])) (fun y e1000000=>K (.pan ⟨46,(.int .i64),y⟩) (St.ofList [(1000000,(a10 (some e1000000)))]))
structure zeca where (f3:Ti) (f1000000:It4)
noncomputable def zoda (k_normal:Ti→It4→Option R) (k_pan:Int→It4→Option R) (x:zeca):Option R :=
 zLaa x.f3.2.2.1 (x.f1000000.1.2.2.2.1.length:Int) (k_normal x.f3 x.f1000000)
 (fun y2 =>
 k_pan y2 x.f1000000)
noncomputable def zYqa (x:zeca):St:=St.ofList [(0,(.al 1000000 [.der])),(3,(a6 (some x.f3))),(1000000,(a10 (some x.f1000000)))]
def zrna:Ex→List (Nat×Bool) | .normal=>[(0,false),(3,false),(1000000,false)] | .pan _=>[(1000000,false)]|_=>[]
def zAfa:List (Nat×Bool):=[(0,false),(3,false),(1000000,false)]
noncomputable def ztfa:Pt zeca := .s 0 (sAl 1000000 [.der]) fun _ => .s 3 B1 fun y3 => .s 1000000 B3 fun y1000000 => .e ⟨y3,y1000000⟩
noncomputable def zgga (R:Type) (K:Ex→St→Option R):zeca→Option R:=zoda (fun e3 e1000000=>K .normal (St.ofList [(0,(.al 1000000 [.der])),(3,(a6 (some e3))),(1000000,(a10 (some e1000000)))])) (fun y e1000000=>K (.pan ⟨46,(.int .i64),y⟩) (St.ofList [(1000000,(a10 (some e1000000)))]))
structure zYaa where (f3:Ti) (f1000000:It4)
noncomputable def zbba (k_normal:It4→Option R) (k_pan:Int→It4→Option R) (k_ret:Bool→It4→Option R) (x:zYaa):Option R :=
 cond (x.f3.1==0)
 (zwaa x.f1000000 fun b2 =>
 k_normal b2)
 (cond (x.f3.1==1)
 (k_normal x.f1000000)
 (let k1:Option R:=(zxba (fun w5 w6 w7 w8 =>
 zraa w7 7 (zBaa (fun w9 w10 w11 =>
 zcaa w11 w10.1 (fun r12 b13 =>
 ztaa b13 w9.1 w10.1 w10.2.1 fun b14 =>
 k_normal b14)
 (fun y15 b16 =>
 k_pan y15 b16)) (fun y18 w17 =>
 k_pan y18 w17) ⟨w5,w6,w8⟩)
 (fun y19 =>
 k_pan y19 w8)) ⟨x.f3,x.f1000000⟩)
 cond (x.f3.1==2)
 (k1)
 (cond (x.f3.1==3)
 (k1)
 (cond (x.f3.1==4)
 (k1)
 (cond (x.f3.1==5)
 (zyaa x.f1000000 (fun r53 b54 =>
 ztaa b54 5 r53.2.1 r53.2.2.1 fun b55 =>
 k_normal b55)
 (fun y56 b57 =>
 k_pan y56 b57))
 (cond (x.f3.1==11)
 (zyaa x.f1000000 (fun r59 b60 =>
 zIaa (fun w61 w62 =>
 ziaa w62 w61.2.2.1 fun b63 =>
 k_normal b63) (fun y65 w64 =>
 k_pan y65 w64) ⟨r59,b60⟩)
 (fun y66 b67 =>
 k_pan y66 b67))
 (cond (x.f3.1==12)
 (znaa x.f1000000 x.f3.2.1 (fun r69 b70 =>
 zcaa b70 r69 (fun r71 b72 =>
 zwaa b72 fun b73 =>
 k_normal b73)
 (fun y74 b75 =>
 k_pan y74 b75))
 (fun y76 b77 =>
 k_pan y76 b77))
 (cond (x.f3.1==13)
 (znaa x.f1000000 x.f3.2.1 (fun r79 b80 =>
 zhaa b80 127 (fun r81 b82 =>
 zlaa b82 r79 r79 (fun b83 =>
 k_normal b83)
 (fun y84 b85 =>
 k_pan y84 b85))
 (fun y86 b87 =>
 k_pan y86 b87))
 (fun y88 b89 =>
 k_pan y88 b89))
 (cond (x.f3.1==14)
 (ztda x.f1000000 x.f3 (fun b91 =>
 k_normal b91)
 (fun y92 b93 =>
 k_pan y92 b93))
 (cond (x.f3.1==15)
 (cond (inB 0 x.f1000000.2.2.2.1.length)
 (zcaa x.f1000000 ((((x.f1000000.2.2.2.1.getD (0:Int).toNat (0,([],([],(0,(false,())))))).2).2).1) (fun r96 b97 =>
 zwaa b97 fun b98 =>
 k_normal b98)
 (fun y99 b100 =>
 k_pan y99 b100)) none)
 (cond (x.f3.1==16)
 (zwba (fun w102 w103 w104 =>
 zraa w103 7 (zlaa w104 w102.1 w102.2.1 (fun b105 =>
 k_normal b105)
 (fun y106 b107 =>
 k_pan y106 b107))
 (fun y108 =>
 k_pan y108 w104)) ⟨x.f3,x.f1000000⟩)
 (cond (x.f3.1==17)
 (zpda (fun w110 w111 =>
 zoda (fun w112 w113 =>
 cond (inB w112.2.1 w113.1.1.length)
 (let v114:=w113.1.1.getD w112.2.1.toNat ([],([],()))
 zhaa w113 127 (fun r115 b116 =>
 zlaa b116 v114.1 v114.2.1 (fun b117 =>
 k_normal b117)
 (fun y118 b119 =>
 k_pan y118 b119))
 (fun y120 b121 =>
 k_pan y120 b121)) none) (fun y131 w130 =>
 k_pan y131 w130) ⟨w110,w111⟩) (fun y133 w132 =>
 k_pan y133 w132) ⟨x.f3,x.f1000000⟩)
 (k_ret false x.f1000000)))))))))))))
noncomputable def zlda (k_normal:It4→Option R) (k_pan:Int→It4→Option R) (k_ret:Bool→It4→Option R) (x:zYaa):Option R :=
 cond (x.f3.1==0)
 (zwaa x.f1000000 fun b2 =>
 k_normal b2)
 (cond (x.f3.1==1)
 (k_normal x.f1000000)
 (let k2:Option R:=(zxba (fun w5 w6 w7 w8 =>
 zraa w7 7 (zBaa (fun w9 w10 w11 =>
 zcaa w11 w10.1 (fun r12 b13 =>
 ztaa b13 w9.1 w10.1 w10.2.1 fun b14 =>
 k_normal b14)
 (fun y15 b16 =>
 k_pan y15 b16)) (fun y18 w17 =>
 k_pan y18 w17) ⟨w5,w6,w8⟩)
 (fun y19 =>
 k_pan y19 w8)) ⟨x.f3,x.f1000000⟩)
 cond (x.f3.1==2)
 (k2)
 (cond (x.f3.1==3)
 (k2)
 (cond (x.f3.1==4)
 (k2)
 (cond (x.f3.1==5)
 (zyaa x.f1000000 (fun r53 b54 =>
 ztaa b54 5 r53.2.1 r53.2.2.1 fun b55 =>
 k_normal b55)
 (fun y56 b57 =>
 k_pan y56 b57))
 (cond (x.f3.1==11)
 (zyaa x.f1000000 (fun r59 b60 =>
 zIaa (fun w61 w62 =>
 ziaa w62 w61.2.2.1 fun b63 =>
 k_normal b63) (fun y65 w64 =>
 k_pan y65 w64) ⟨r59,b60⟩)
 (fun y66 b67 =>
 k_pan y66 b67))
 (cond (x.f3.1==12)
 (znaa x.f1000000 x.f3.2.1 (fun r69 b70 =>
 zcaa b70 r69 (fun r71 b72 =>
 zwaa b72 fun b73 =>
 k_normal b73)
 (fun y74 b75 =>
 k_pan y74 b75))
 (fun y76 b77 =>
 k_pan y76 b77))
 (cond (x.f3.1==13)
 (znaa x.f1000000 x.f3.2.1 (fun r79 b80 =>
 zhaa b80 127 (fun r81 b82 =>
 zlaa b82 r79 r79 (fun b83 =>
 k_normal b83)
 (fun y84 b85 =>
 k_pan y84 b85))
 (fun y86 b87 =>
 k_pan y86 b87))
 (fun y88 b89 =>
 k_pan y88 b89))
 (cond (x.f3.1==14)
 (ztda x.f1000000 x.f3 (fun b91 =>
 k_normal b91)
 (fun y92 b93 =>
 k_pan y92 b93))
 (cond (x.f3.1==15)
 (cond (inB 0 x.f1000000.2.2.2.1.length)
 (zcaa x.f1000000 ((((x.f1000000.2.2.2.1.getD (0:Int).toNat (0,([],([],(0,(false,())))))).2).2).1) (fun r96 b97 =>
 zwaa b97 fun b98 =>
 k_normal b98)
 (fun y99 b100 =>
 k_pan y99 b100)) none)
 (cond (x.f3.1==16)
 (zwba (fun w102 w103 w104 =>
 zraa w103 7 (zlaa w104 w102.1 w102.2.1 (fun b105 =>
 k_normal b105)
 (fun y106 b107 =>
 k_pan y106 b107))
 (fun y108 =>
 k_pan y108 w104)) ⟨x.f3,x.f1000000⟩)
 (cond (x.f3.1==17)
 (zpda (fun w110 w111 =>
 zoda (fun w112 w113 =>
 let k1:Option R:=(cond (inB w112.2.1 w113.1.1.length)
 (let v114:=w113.1.1.getD w112.2.1.toNat ([],([],()))
 zhaa w113 127 (fun r115 b116 =>
 zlaa b116 v114.1 v114.2.1 (fun b117 =>
 k_normal b117)
 (fun y118 b119 =>
 k_pan y118 b119))
 (fun y120 b121 =>
 k_pan y120 b121)) none)
 both
 (k1)
 (k1)) (fun y131 w130 =>
 k_pan y131 w130) ⟨w110,w111⟩) (fun y133 w132 =>
 k_pan y133 w132) ⟨x.f3,x.f1000000⟩)
 (k_ret false x.f1000000)))))))))))))
theorem zmna {R:Type} (k_normal:It4→Option R) (k_pan:Int→It4→Option R) (k_ret:Bool→It4→Option R) (x:zYaa):zlda (R:=R) k_normal k_pan k_ret x=zbba (R:=R) k_normal k_pan k_ret x:=by
 unfold zlda zbba;simp only[zKaa]
noncomputable def zXga (x:zYaa):St:=St.ofList [(0,(.al 1000000 [.der])),(3,(a6 (some x.f3))),(1000000,(a10 (some x.f1000000)))]
def zpfa:Ex→List (Nat×Bool) | .normal=>[(1000000,false)] | .pan _=>[(1000000,false)] | .ret=>[(4,false),(1000000,false)]|_=>[]
def zzfa:List (Nat×Bool):=[(0,false),(3,false),(1000000,false)]
noncomputable def zsfa:Pt zYaa := .s 0 (sAl 1000000 [.der]) fun _ => .s 3 B1 fun y3 => .s 1000000 B3 fun y1000000 => .e ⟨y3,y1000000⟩
noncomputable def zfga (R:Type) (K:Ex→St→Option R):zYaa→Option R:=zbba (fun e1000000=>K .normal (St.ofList [(1000000,(a10 (some e1000000)))])) (fun y e1000000=>K (.pan ⟨46,(.int .i64),y⟩) (St.ofList [(1000000,(a10 (some e1000000)))])) (fun e4 e1000000=>K .ret (St.ofList [(4,(a2 e4)),(1000000,(a10 (some e1000000)))]))
noncomputable def zmaa:Loops:=fun z i R st K=>match z,i with
 |true,10=>lpE zFfa zyfa (zlga R K) st
 |true,13=>lpE zEfa zxfa (zkga R K) st
 |true,21=>lpE zDfa zwfa (zjga R K) st
 |true,36=>lpE zCfa zvfa (ziga R K) st
 |true,40=>lpE zBfa zufa (zhga R K) st
 |true,41=>lpE zAfa ztfa (zgga R K) st
 |true,44=>lpE zzfa zsfa (zfga R K) st
 |_,_=>none
theorem zTla:JStep zjaa zmaa inl0 (jcOf 10 (body Tryz.f66.body)) zrfa zZga zlga:=fun R K x=>by
 have h:evC zjaa zmaa inl0 (jcOf 10 (body Tryz.f66.body)) (zZga x) (fun e st=>zAka (zrfa e) st (K e))=znda (fun e3 e5 e6 e1000000=>K .normal (St.ofList [(0,(.al 1000000 [.der])),(3,(a6 (some e3))),(5,(a11 (some e5))),(6,(a2 e6)),(1000000,(a10 (some e1000000)))])) x:=by kernel_rfl
 rw[h,zona]; rfl
theorem zBna:JOk zjaa zmaa inl0 10 Tryz.f66:=zvda (hd:=zFfa) zTla (p:=zyfa) (fun _ _ _=>⟨rfl,rfl⟩) fun _ _ _=>rfl
theorem zAna:JOk zjaa zmaa inl0 13 Tryz.f66:=zvda (hd:=zEfa) (out:=zuna) (S:=zbra) (J:=zkga) (fun _ _ _=>by kernel_rfl) (p:=zxfa) (fun _ _ _ _=>⟨rfl,rfl⟩) fun _ _ _=>rfl
theorem zzna:JOk zjaa zmaa inl0 21 Tryz.f66:=zvda (hd:=zDfa) (out:=ztna) (S:=zara) (J:=zjga) (fun _ _ _=>by kernel_rfl) (p:=zwfa) (fun _ _ _=>⟨rfl,rfl⟩) fun _ _ _=>rfl
theorem zSla:JStep zjaa zmaa inl0 (jcOf 36 (body Tryz.f66.body)) zqfa zYga ziga:=fun R K x=>by
 have h:evC zjaa zmaa inl0 (jcOf 36 (body Tryz.f66.body)) (zYga x) (fun e st=>zAka (zqfa e) st (K e))=zmda (fun e10 e11 e1000000=>K .normal (St.ofList [(0,(.al 1000000 [.der])),(10,(a11 (some e10))),(11,(a2 e11)),(1000000,(a10 (some e1000000)))])) x:=by kernel_rfl
 rw[h,znna]; rfl
theorem zyna:JOk zjaa zmaa inl0 36 Tryz.f66:=zvda (hd:=zCfa) zSla (p:=zvfa) (fun _ _ _=>⟨rfl,rfl⟩) fun _ _ _=>rfl
theorem zxna:JOk zjaa zmaa inl0 40 Tryz.f66:=zvda (hd:=zBfa) (out:=zsna) (S:=zZqa) (J:=zhga) (fun _ _ _=>by kernel_rfl) (p:=zufa) (fun _ _ _=>⟨rfl,rfl⟩) fun _ _ _=>rfl
theorem zwna:JOk zjaa zmaa inl0 41 Tryz.f66:=zvda (hd:=zAfa) (out:=zrna) (S:=zYqa) (J:=zgga) (fun _ _ _=>by kernel_rfl) (p:=ztfa) (fun _ _ _=>⟨rfl,rfl⟩) fun _ _ _=>rfl
theorem zRla:JStep zjaa zmaa inl0 (jcOf 44 (body Tryz.f66.body)) zpfa zXga zfga:=fun R K x=>by
 have h:evC zjaa zmaa inl0 (jcOf 44 (body Tryz.f66.body)) (zXga x) (fun e st=>zAka (zpfa e) st (K e))=zlda (fun e1000000=>K .normal (St.ofList [(1000000,(a10 (some e1000000)))])) (fun y e1000000=>K (.pan ⟨46,(.int .i64),y⟩) (St.ofList [(1000000,(a10 (some e1000000)))])) (fun e4 e1000000=>K .ret (St.ofList [(4,(a2 e4)),(1000000,(a10 (some e1000000)))])) x:=by kernel_rfl
 rw[h,zmna]; rfl
theorem zvna:JOk zjaa zmaa inl0 44 Tryz.f66:=zvda (hd:=zzfa) zRla (p:=zsfa) (fun _ _ _=>⟨rfl,rfl⟩) fun _ _ _=>rfl
theorem zOoa:zsaa zjaa zmaa inl0 (body Tryz.f66.body):=lsL .nil (.cons zAna (.cons zBna (.cons zzna (.cons zyna (.cons zwna (.cons zxna (.cons zvna .nil)))))))
noncomputable def zjja (a0:It4) (a1:Ti) (K:Bool→It4→Option R) (Kp:Int→It4→Option R):Option R :=
 zbba (fun w1 =>
 K true w1) (fun y3 w2 =>
 Kp y3 w2) (fun w4 w5 =>
 K w4 w5) ⟨a1,a0⟩
noncomputable def zfia:CSpec:={ ins:=[(.ref (.pair (.pair Ty5 Ty9) (.pair (.sl 3 (.int .i64)) Ty11)) (.p .s (.p (.o .s) (.p (.o .s) (.p (.o .s) .s)))) (.p .s (.p (.o .s) (.p (.o .s) (.p (.o .s) .s))))),(.val (.pair (.int .i64) (.pair (.int .i64) Ty0)) .s)],outs:=[(.bool,.s)],pan:=some (46,(.int .i64)),fn:=fun d K Kp=>zjja d.1 d.2.1 (fun r0 b0=>K ((r0,()):Bool×Unit) ((b0,()):It4×Unit)) (fun y b0=>Kp (y:Int) ((b0,()):It4×Unit)) }
theorem zUta:Holds Tryz.prog 66 zfia:=hw zjaa [(4,none)] zfaa Tryz.func66 zOoa ⟨mixed,envTyOk.ty,envTyOk.eq⟩
noncomputable def zXta:GE Tryz.prog:=⟨66,[],zfia,zUta⟩
noncomputable def zCra:Nat→Bool
 |3=>true
 |_=>false
noncomputable def zpra:Nat→Option (List Nat)
 |0=>some [0,1,1000000]
 |1|13|14|20|21|23|24|25=>some [0,3,1000000]
 |2|30=>some [1000000]
 |3|5|10|11|12|19|22=>some [0,3,9,1000000]
 |4|6|7|27|29=>some [0,1000000]
 |8=>some [0,5,1000000]
 |9=>some [0,5,6,1000000]
 |15|16|17=>some [0,3,7,1000000]
 |18=>some [0,7,1000000]
 |26|28=>some [0,9,1000000]
 |_=>none
noncomputable def zFqa:Env:={ mE [zhea,zOba,zYza,zbea] Tryz.f67 with fz:=zCra,lv:=zpra,al:=[0,12,16,18,20,23,35,36,37,41,42,43,52,58,66,67,68,69,73,74,75,76,77,90,91,92,93,97,98,99,100,108,109,110,111,112,122,127] }
noncomputable def zRaa (a0:It4) (a1:Ti) (K:Bool→It4→Option R) (Kp:Int→It4→Option R):Option R :=
 cond (a1.1==26)
 (zhaa a0 0 (fun r2 b3 =>
 K true b3)
 (fun y4 b5 =>
 Kp y4 b5))
 (cond (a1.1==27)
 (zhaa a0 127 (fun r7 b8 =>
 zhaa b8 0 (fun r9 b10 =>
 zhaa b10 r9 (fun r11 b12 =>
 ziaa b12 (List.set (List.replicate 1 (0:Int)) 0 (maxI r9 r11)) fun b15 =>
 K true b15)
 (fun y16 b17 =>
 Kp y16 b17))
 (fun y18 b19 =>
 Kp y18 b19))
 (fun y20 b21 =>
 Kp y20 b21))
 (let k1:Option R:=(zLaa a1.2.1 (a0.2.1.length:Int) (cond (inB a1.2.1 a0.2.1.length)
 (let v24:=(a0.2.1.getD a1.2.1.toNat 0)
 cond (a1.1 != 32)
 (zhaa a0 v24 (fun r26 b27 =>
 cond (a1.1 != 33)
 (ziaa b27 (List.set (List.replicate 1 (0:Int)) 0 v24) fun b30 =>
 K true b30)
 (K true b27))
 (fun y31 b32 =>
 Kp y31 b32))
 (cond (a1.1 != 33)
 (ziaa a0 (List.set (List.replicate 1 (0:Int)) 0 v24) fun b35 =>
 K true b35)
 (K true a0))) none)
 (fun y36 =>
 Kp y36 a0))
 cond (a1.1==32)
 (k1)
 (cond (a1.1==33)
 (k1)
 (cond (a1.1==34)
 (k1)
 (cond (a1.1==35)
 (zLaa a1.2.1 (a0.1.2.2.1.length:Int) (cond (inB a1.2.1 a0.1.2.2.1.length)
 (ziaa a0 (List.set (List.replicate 1 (0:Int)) 0 (a0.1.2.2.1.getD a1.2.1.toNat (0,(false,()))).1) fun b71 =>
 K true b71) none)
 (fun y72 =>
 Kp y72 a0))
 (cond (a1.1==36)
 (zLaa a1.2.1 (a0.1.2.2.1.length:Int) (cond (inB a1.2.1 a0.1.2.2.1.length)
 (zraa (a0.1.2.2.1.getD a1.2.1.toNat (0,(false,()))).2.1 5 (cond (inB a1.2.1 a0.1.2.2.1.length)
 (zhaa a0 (a0.1.2.2.1.getD a1.2.1.toNat (0,(false,()))).1 (fun r77 b78 =>
 K true b78)
 (fun y79 b80 =>
 Kp y79 b80)) none)
 (fun y81 =>
 Kp y81 a0)) none)
 (fun y82 =>
 Kp y82 a0))
 (cond (a1.1==65)
 (ziaa a0 (List.set (List.replicate 1 (0:Int)) 0 127) fun b85 =>
 K true b85)
 (cond (a1.1==66)
 (ziaa a0 (List.set (List.replicate 1 (0:Int)) 0 126) fun b88 =>
 K true b88)
 (K false a0)))))))))
noncomputable def zJha:CSpec:={ ins:=[(.ref (.pair (.pair Ty5 Ty9) (.pair (.sl 3 (.int .i64)) Ty11)) (.p .s (.p (.o .s) (.p (.o .s) (.p (.o .s) .s)))) (.p .s (.p (.o .s) (.p (.o .s) (.p (.o .s) .s))))),(.val (.pair (.int .i64) (.pair (.int .i64) Ty0)) .s)],outs:=[(.bool,.s)],pan:=some (46,(.int .i64)),fn:=fun d K Kp=>zRaa d.1 d.2.1 (fun r0 b0=>K ((r0,()):Bool×Unit) ((b0,()):It4×Unit)) (fun y b0=>Kp (y:Int) ((b0,()):It4×Unit)) }
theorem zkta:Holds Tryz.prog 67 zJha:=hw zFqa [(4,none)] (lp:=lp0) (code:=body Tryz.f67.body) zfaa Tryz.func67 l0 ⟨mixed,envTyOk.ty,envTyOk.eq⟩
noncomputable def zlta:GE Tryz.prog:=⟨67,[],zJha,zkta⟩
noncomputable def zEra:Env:=mE [zbea,zYza] Tryz.f119
noncomputable def zFca (a0:It4) (a1:Int) (K:It4→Option R) (Kp:Int→It4→Option R):Option R :=
 zraa a0.1.2.2.2.2.2.2.2.2.2.1 7 (zLaa a1 a0.1.2.2.2.2.2.2.2.2.1 (K a0)
 (fun y1 =>
 Kp y1 a0))
 (fun y2 =>
 Kp y2 a0)
noncomputable def zeia:CSpec:={ ins:=[(.ref (.pair (.pair Ty5 Ty9) (.pair (.sl 3 (.int .i64)) Ty11)) (.p .s (.p (.o .s) (.p (.o .s) (.p (.o .s) .s)))) (.p .s (.p (.o .s) (.p (.o .s) (.p (.o .s) .s))))),(.val (.int .i64) .s)],outs:=[],pan:=some (46,(.int .i64)),fn:=fun d K Kp=>zFca d.1 d.2.1 (fun b0=>K ((()):Unit) ((b0,()):It4×Unit)) (fun y b0=>Kp (y:Int) ((b0,()):It4×Unit)) }
theorem zTta:Holds Tryz.prog 119 zeia:=hw zEra [] (lp:=lp0) (code:=body Tryz.f119.body) zfaa Tryz.func119 l0 ⟨mixed,envTyOk.ty,envTyOk.eq⟩
noncomputable def zWta:GE Tryz.prog:=⟨119,[],zeia,zTta⟩
noncomputable def zYta:Nat→Bool
 |3=>true
 |_=>false
noncomputable def zCta:Nat→Option (List Nat)
 |0=>some [0,1,1000000]
 |1|9|18|19|26|28|29|32|33|36=>some [0,3,1000000]
 |2=>some [0,3,5,6,7,8,1000000]
 |3|4=>some [0,3,5,6,7,1000000]
 |5=>some [0,5,7,1000000]
 |6|7=>some [0,5,1000000]
 |8|10|37=>some [1000000]
 |11|14|17|21|22|25|27|31|35=>some [0,3,53,1000000]
 |12|13|15|16|20|23|24|30|34=>some [0,1000000]
 |_=>none
noncomputable def zqta:Env:={ mE [zJHa,zYza,zbea,zUga,zOba,zWta,zGSa,zBca] Tryz.f68 with fz:=zYta,lv:=zCta,al:=[0,18,19,20,21,43,47,56,57,58,59,63,68,69,70,71,75,81,82,83,84,88,92,98,99,100,101,105,110,118,119,120,121,126,127,128,129,133,140,141,142,143,149,150,151,152,156] }
noncomputable def zkaa (a0:It4) (a1:Ti) (K:Bool→It4→Option R) (Kp:Int→It4→Option R):Option R :=
 zBea a1.1 fun r1 r2 r3 r4 =>
 cond r4
 (zLaa 0 (a0.1.2.2.2.2.1.length:Int) (let k2:Option R:=(cond r3
 (zlaa a0 (List.set (List.set (List.replicate 2 (0:Int)) 0 127) 1 r1) [] (fun b22 =>
 K true b22)
 (fun y23 b24 =>
 Kp y23 b24))
 (zlaa a0 (List.set (List.replicate 1 (0:Int)) 0 127) (List.set (List.replicate 1 (0:Int)) 0 r1) (fun b27 =>
 K true b27)
 (fun y28 b29 =>
 Kp y28 b29)))
 let k1:Option R:=(zraa false 5 (k2)
 (fun y30 =>
 Kp y30 a0))
 cond (decide (a1.2.1≥0))
 (cond (decide (a1.2.1≤3))
 (let v8:=IntKind.u64.wrap a1.2.1
 cond (decide (0≤v8))
 (zraa (decide ((shlI .i64 1 v8)≤r2)) 5 (k2)
 (fun y20 =>
 Kp y20 a0)) none)
 (k1))
 (k1))
 (fun y41 =>
 Kp y41 a0))
 (cond (a1.1==63)
 (zLaa 0 (a0.1.2.2.2.2.1.length:Int) (ziaa a0 (List.set (List.replicate 1 (0:Int)) 0 127) fun b45 =>
 K true b45)
 (fun y46 =>
 Kp y46 a0))
 (cond (a1.1==64)
 (zLaa 0 (a0.1.2.2.2.2.1.length:Int) (zlaa a0 (List.set (List.replicate 1 (0:Int)) 0 127) (List.set (List.replicate 1 (0:Int)) 0 127) (fun b51 =>
 K true b51)
 (fun y52 b53 =>
 Kp y52 b53))
 (fun y54 =>
 Kp y54 a0))
 (cond (a1.1==264)
 (zLaa 0 (a0.1.2.2.2.2.1.length:Int) (zFca a0 a1.2.1 (fun b57 =>
 zBma fun r58 =>
 zcaa b57 r58 (fun r59 b60 =>
 K true b60)
 (fun y61 b62 =>
 Kp y61 b62))
 (fun y63 b64 =>
 Kp y63 b64))
 (fun y65 =>
 Kp y65 a0))
 (let k3:Option R:=(zLaa 0 (a0.1.2.2.2.2.1.length:Int) (zBma fun r68 =>
 zcaa a0 r68 (fun r69 b70 =>
 K true b70)
 (fun y71 b72 =>
 Kp y71 b72))
 (fun y73 =>
 Kp y73 a0))
 cond (a1.1==266)
 (k3)
 (cond (a1.1==267)
 (k3)
 (cond (a1.1==265)
 (zFca a0 a1.2.1 (fun b83 =>
 K true b83)
 (fun y84 b85 =>
 Kp y84 b85))
 (let k4:Option R:=(zLaa a1.2.2.1 (a0.1.2.2.2.1.length:Int) (zBma fun r88 =>
 zcaa a0 r88 (fun r89 b90 =>
 K true b90)
 (fun y91 b92 =>
 Kp y91 b92))
 (fun y93 =>
 Kp y93 a0))
 cond (a1.1==268)
 (zLaa a1.2.1 a0.1.2.2.2.2.2.2.2.1 (k4)
 (fun y94 =>
 Kp y94 a0))
 (cond (a1.1==270)
 (zLaa a1.2.1 (a0.1.2.2.2.1.length:Int) (k4)
 (fun y104 =>
 Kp y104 a0))
 (cond (a1.1==269)
 (zLaa a1.2.1 a0.1.2.2.2.2.2.2.2.1 (K true a0)
 (fun y106 =>
 Kp y106 a0))
 (K false a0))))))))))
noncomputable def zuja:CSpec:={ ins:=[(.ref (.pair (.pair Ty5 Ty9) (.pair (.sl 3 (.int .i64)) Ty11)) (.p .s (.p (.o .s) (.p (.o .s) (.p (.o .s) .s)))) (.p .s (.p (.o .s) (.p (.o .s) (.p (.o .s) .s))))),(.val (.pair (.int .i64) (.pair (.int .i64) Ty0)) .s)],outs:=[(.bool,.s)],pan:=some (46,(.int .i64)),fn:=fun d K Kp=>zkaa d.1 d.2.1 (fun r0 b0=>K ((r0,()):Bool×Unit) ((b0,()):It4×Unit)) (fun y b0=>Kp (y:Int) ((b0,()):It4×Unit)) }
theorem zSva:Holds Tryz.prog 68 zuja:=hw zqta [(4,none)] (lp:=lp0) (code:=body Tryz.f68.body) zfaa Tryz.func68 l0 ⟨mixed,envTyOk.ty,envTyOk.eq⟩
noncomputable def zUva:GE Tryz.prog:=⟨68,[],zuja,zSva⟩
noncomputable def zGna:Nat→Bool
 |3=>true
 |_=>false
noncomputable def zWma:Env:={ mE [zXta,zlta,zUva,zUOa,zbea,zUga] Tryz.f35 with fz:=zGna,al:=[0,7,11,16,29] }
noncomputable def zSaa (a0:It4) (a1:Ti) (K:It4→Option R) (Kp:Int→It4→Option R):Option R :=
 zjja a0 a1 (fun r1 b2 =>
 cond r1
 (K b2)
 (zRaa b2 a1 (fun r3 b4 =>
 cond r3
 (K b4)
 (zkaa b4 a1 (fun r5 b6 =>
 cond r5
 (K b6)
 (zpea a1.1 fun r7 r8 r9 =>
 zraa r9 2 (zlaa b6 r7 (List.set (List.replicate 1 (0:Int)) 0 r8) (fun b11 =>
 K b11)
 (fun y12 b13 =>
 Kp y12 b13))
 (fun y14 =>
 Kp y14 b6)))
 (fun y15 b16 =>
 Kp y15 b16)))
 (fun y17 b18 =>
 Kp y17 b18)))
 (fun y19 b20 =>
 Kp y19 b20)
noncomputable def zGfa:CSpec:={ ins:=[(.ref (.pair (.pair Ty5 Ty9) (.pair (.sl 3 (.int .i64)) Ty11)) (.p .s (.p (.o .s) (.p (.o .s) (.p (.o .s) .s)))) (.p .s (.p (.o .s) (.p (.o .s) (.p (.o .s) .s))))),(.val (.pair (.int .i64) (.pair (.int .i64) Ty0)) .s)],outs:=[],pan:=some (46,(.int .i64)),fn:=fun d K Kp=>zSaa d.1 d.2.1 (fun b0=>K ((()):Unit) ((b0,()):It4×Unit)) (fun y b0=>Kp (y:Int) ((b0,()):It4×Unit)) }
theorem zToa:Holds Tryz.prog 35 zGfa:=hw zWma [] (lp:=lp0) (code:=body Tryz.f35.body) zfaa Tryz.func35 l0 ⟨mixed,envTyOk.ty,envTyOk.eq⟩
noncomputable def zVBa:List (FuncId×List FuncId×CSpec):=[(31,[],zlCa),(33,[],zasa),(34,[],zUea),(35,[],zGfa)]
noncomputable def zUSa:Nat→Bool
 |2=>true
 |3=>true
 |_=>false
noncomputable def zbTa:Nat→Bool
 |5=>true
 |8=>true
 |_=>false
noncomputable def zUoa:Env:={ E0 with gam:=(gamL zVBa),n:=Tryz.f15.ntmps,fz:=zUSa,fs:=zbTa,df:=true,rs:=[4] }
theorem zeMa:EnvFn Tryz.prog zUoa:=fun f gs c h=>zPOa (l:=zVBa) ⟨zqQa,zQGa,zwla,zToa,trivial⟩ f gs c h
structure zzha where (f4:Int) (f6:It4) (f47:Tj) (f48 f49:Int)
noncomputable def zxwa (k_pan:Int→Int→Option R) (k_exit_0:Int→Option R) (rec:zzha→Option R) (x:zzha):Option R :=
 cond (decide (x.f49<x.f48))
 (cond (inB x.f49 x.f47.length)
 (zSaa x.f6 (x.f47.getD x.f49.toNat (0,(0,(0,(0,([],())))))) (fun b3 =>
 rec ⟨x.f4,b3,x.f47,x.f48,(IntKind.i64.wrap (x.f49+1))⟩)
 (fun y5 b6 =>
 k_pan y5 x.f4)) none)
 (k_exit_0 x.f4)
noncomputable def zqRa (x:zzha):St:=St.ofList [(4,(a13 (some x.f4))),(6,(a14 (some x.f6))),(47,(a7 x.f47)),(48,(a0 x.f48)),(49,(a0 x.f49)),(57,(.fn 32 [] [(4,[.der])]))]
def zNKa:Ex→List (Nat×Bool) | .pan _=>[(4,false),(57,false)] | .exit 0=>[(4,false),(57,false)]|_=>[]
def zUBa:List (Nat×Bool):=[(4,false),(6,false),(47,false),(48,false),(49,false),(57,false)]
noncomputable def zBBa:Pt zzha := .s 4 B6 fun y4 => .s 6 B7 fun y6 => .s 47 A3 fun y47 => .s 48 A0 fun y48 => .s 49 A0 fun y49 => .s 57 (sFn 32 [] [(4,[.der])]) fun _ => .e ⟨y4,y6,y47,y48,y49⟩
noncomputable def zEFa (R:Type) (K:Ex→St→Option R):(zzha→Option R)→zzha→Option R:=zxwa (fun y e4=>K (.pan ⟨46,(.int .i64),y⟩) (St.ofList [(4,(a13 (some e4))),(57,(.fn 32 [] [(4,[.der])]))])) (fun e4=>K (.exit 0) (St.ofList [(4,(a13 (some e4))),(57,(.fn 32 [] [(4,[.der])]))]))
noncomputable def zjya:Loops:=fun z i R st K=>match z,i with
 |false,8=>lpE zUBa zBBa (lpL zEFa K) st
 |_,_=>none
theorem zzNa:LOk zUoa zjya inl0 8 Tryz.f15:=zPoa (hd:=zUBa) (out:=zNKa) (S:=zqRa) (B:=zEFa) (p:=zBBa) (i:=8) (fun _ _ _ _=>by kernel_rfl) (fun _ _ _ _ _ _=>⟨rfl,rfl⟩) (by kernel_rfl) fun _ _ _=>rfl
theorem zuLa:zsaa zUoa zjya inl0 (body Tryz.f15.body):=lsL (.cons zzNa .nil) .nil
noncomputable def zXaa (a0:(List Tq)×(Tl)×It2) (a1:(Int)×It13) (K:Int→Option R):Option R :=
 cond (decide (a1.1<0))
 (K 2)
 (cond (decide (a1.1≥(a0.1.length:Int)))
 (K 2)
 (zMoa a1.2.2.1 fun r4 =>
 cond (!r4)
 (K 2)
 (cond (inB a1.1 a0.1.length)
 (let v6:=a0.1.getD a1.1.toNat ([],([],()))
 zsha (List.set (List.set (List.replicate 2 ([]:List (Int))) 0 v6.1) 1 a1.2.1) (fun r8 =>
 ztaa (a0,(r8,([],([],())))) 2 [] v6.2.1 fun b9 =>
 loopN (zxwa (fun y12 w11 =>
 K y12) (fun w13 =>
 K 0)) zpaa ⟨0,b9,a1.2.2.1,(a1.2.2.1.length:Int),0⟩)
 (fun y14 =>
 none)) none)))
noncomputable def zLHa:CSpec:={ ins:=[(.val (.pair Ty5 Ty9) .s),(.val (.pair (.int .i64) Ty14) .s)],outs:=[((.int .i64),.s)],fn:=fun d K _=>zXaa d.1 d.2.1 (fun r0=>K (r0,()) ()) }
theorem zwVa (w:World) (p:Value):CallsD Tryz.prog 32 #[p] .returning w fun e u w'=>(∃v,e = .returned v)∧u = .returning∧w'=w:=by
 refine callsD_of_wpS Tryz.func32 rfl fun c₀ cs hu=>?_
 apply wpS_seq;apply wpS_region;simp[wpOpsS,go_sem,recoverD,hu,Tryz.ntmps32,Exit.thenS];apply wpS_seq;apply wpS_region;simp[wpOpsS,go_sem,recoverD,hu,Tryz.ntmps32,Exit.thenS];refine wpS_cond (t:=false) (by simp[Act.eval,Array.replicate]) ?_;simp only[Bool.false_eq_true,if_false];refine wpS_of_wp (wp_skip ?_);cases c₀
 simp_all [bodyPostS,results,Tryz.results32]
theorem zxTa (w:World) (b o:Nat) (kd:IntKind) (n:Int) (hw:zTga w b (o+1) true):CallsD Tryz.prog 32 #[.pointer (some ⟨b,o,none⟩)] (.panicking [{ v := .iface 46 (.int kd n),recovered:=false }]) w
  fun e u w'=>(∃v,e = .returned v)∧u = .panicking [{ v := .iface 46 (.int kd n),recovered:=true }]∧w'=w.setCells b o (Value.int kd n).cells.toList:=by
 have hc:=zZla hw (k:=o) (by omega);have hz:=zCEa hw (k:=o) (by omega);refine callsD_of_wpS Tryz.func32 rfl fun c₀ cs hu=>?_
 apply wpS_seq;apply wpS_region;simp[wpOpsS,go_sem,recoverD,hu,Tryz.ntmps32,Exit.thenS];apply wpS_seq;apply wpS_region;simp[wpOpsS,go_sem,Exit.thenS];refine wpS_cond (t:=true) (by simp[Act.eval,Array.replicate]) ?_;simp only[if_true];have hta:∀w,(Instr.typeAssert (.iface 46 (.int kd n)) 20 46 true).run Tryz.prog w = .ok (.tuple #[.int kd n,.bool true]) w:=fun w=>by kernel_rfl
 apply wpS_seq;apply wpS_region;simp[wpOpsS,go_sem,Exit.thenS,hta];apply wpS_seq;apply wpS_seq;apply wpS_region;simp[wpOpsS,go_sem,Exit.thenS];refine wpS_cond (t:=false) (by simp[Act.eval,Array.replicate]) ?_;simp only[Bool.false_eq_true,if_false];refine wpS_of_wp (wp_skip ?_);apply wpS_region;simp[wpOpsS,go_sem,hc,hz,bodyPostS,results,Tryz.results32];rfl
theorem zN2a:DefOk Tryz.prog 32 46:=⟨⟨Tryz.f32,_,Tryz.func32,by kernel_rfl,rfl⟩,zwVa,zxTa⟩
theorem zxUa:Holds Tryz.prog 15 zLHa:=ziZa (env:=zUoa) (inl:=inl0) (lp:=zjya) (rs:=[(4,some 46)]) (code:=body Tryz.f15.body) (T:=46) (kd := .i64) (s:=4) (zN2a) ⟨mixed,envTyOk.ty,envTyOk.eq⟩ zeMa zfaa Tryz.func15 zuLa (by kernel_rfl) (by kernel_rfl) (by kernel_rfl) (by kernel_rfl) (by kernel_rfl) (by kernel_rfl) (by kernel_rfl) fun d R K Kp=>by kernel_rfl
noncomputable def zVva:GE Tryz.prog:=⟨15,[],zLHa,zxUa⟩
noncomputable def zQQa:Nat→Bool
 |1=>true
 |_=>false
noncomputable def zCOa:Env:={ mE [zVva] Tryz.f12 with fs:=zQQa }
noncomputable def zmja (K:Bool→Option R):Option R :=
 let v2:=List.set (List.replicate 1 (([]:List (Int)),(([]:List (Int)),()))) 0 ([],((List.set (List.replicate 1 (0:Int)) 0 127),()))
 zXaa (v2,([],([],([],([],(0,(0,(0,(0,(false,())))))))))) (0,([],((List.set (List.set (List.replicate 2 ((0:Int),((0:Int),((0:Int),((0:Int),(([]:List (Int)),())))))) 0 (65,(0,(0,(1,([],())))))) 1 (11,(0,(0,(0,([],())))))),()))) fun r4 =>
 zXaa (v2,([],([],([],([],(0,(0,(0,(0,(false,())))))))))) (0,([],((List.set (List.replicate 1 ((0:Int),((0:Int),((0:Int),((0:Int),(([]:List (Int)),())))))) 0 (11,(0,(0,(0,([],())))))),()))) fun r6 =>
 zXaa (v2,([],([],([],([],(0,(0,(0,(0,(false,())))))))))) (0,([],((List.set (List.set (List.replicate 2 ((0:Int),((0:Int),((0:Int),((0:Int),(([]:List (Int)),())))))) 0 (0,(0,(0,(0,([],())))))) 1 (11,(0,(0,(0,([],())))))),()))) fun r8 =>
 cond (r4==0)
 (cond (r6==6)
 (K (r8==0))
 (K false))
 (K false)
noncomputable def zwFa:CSpec:={ ins:=[],outs:=[(.bool,.s)],fn:=fun d K _=>zmja  (fun r0=>K ((r0,()):Bool×Unit) ((()):Unit)) }
theorem zESa:Holds Tryz.prog 12 zwFa:=hw zCOa [(0,none)] (lp:=lp0) (code:=body Tryz.f12.body) zfaa Tryz.func12 l0 ⟨mixed,envTyOk.ty,envTyOk.eq⟩
noncomputable def zUya:GE Tryz.prog:=⟨12,[],zwFa,zESa⟩
noncomputable def zTRa:TypeId→Md
 |42=>(.p .s (.p (.o .s) (.p (.o .s) .s)))
 |_ => .s
noncomputable def zVQa:Env:={ E0 with n:=Tryz.f49.ntmps,om:=zTRa }
noncomputable def zJba (a0 a1:Int) (K:Int→Option R):Option R :=
 cond (decide (a0<0))
 (K (-1))
 (cond (decide (a1>3000))
 (K (-1))
 (cond (decide ((IntKind.i64.wrap (a0+a1))>3000))
 (K (-1))
 (K (IntKind.i64.wrap (a0+a1)))))
noncomputable def zNHa:CSpec:={ ins:=[(.val (.int .i64) .s),(.val (.int .i64) .s)],outs:=[((.int .i64),.s)],fn:=fun d K _=>zJba d.1 d.2.1 (fun r0=>K (r0,()) ()) }
theorem zzUa:Holds Tryz.prog 49 zNHa:=hw zVQa [(4,none)] (lp:=lp0) (code:=body Tryz.f49.body) zfaa Tryz.func49 l0 ⟨mixed,envTyOk.ty,envTyOk.eq⟩
noncomputable def ziMa:GE Tryz.prog:=⟨49,[],zNHa,zzUa⟩
noncomputable def zRIa:TypeId→Md
 |42=>(.p .s (.p (.o .s) (.p (.o .s) .s)))
 |_ => .s
noncomputable def zXla:Env:={ mE [ziMa] Tryz.f50 with om:=zRIa }
structure X_ref08_bodySize_3 where (f0:Int) (f1:Tj) (f5:Int)
noncomputable def zCha (k_exit_0:Int→Option R) (rec:X_ref08_bodySize_3→Option R) (x:X_ref08_bodySize_3):Option R :=
 cond (decide (x.f5<(x.f1.length:Int)))
 (cond (decide (x.f0≥0))
 (cond (inB x.f5 x.f1.length)
 (zJba x.f0 ((List.length (x.f1.getD x.f5.toNat (0,(0,(0,(0,([],())))))).2.2.2.2.1:Nat):Int) fun r6 =>
 rec ⟨r6,x.f1,(IntKind.i64.wrap (x.f5+1))⟩) none)
 (k_exit_0 x.f0))
 (k_exit_0 x.f0)
noncomputable def zMla:LB:=⟨[.d 0 A0,.d 1 A3,.d 5 A0],[((.exit 0),[.d 0 A0])]⟩
noncomputable def zqua:LF X_ref08_bodySize_3:=fun _ K=>zCha (exS zMla 0 K)
noncomputable def zLwa:Loops:=fun z i R st K=>match z,i with
 |false,3=>lpS zMla X_ref08_bodySize_3.mk zqua K st
 |_,_=>none
theorem zzEa:LOk zXla zLwa inl0 3 Tryz.f50:=lok zMla X_ref08_bodySize_3.mk (fun x=>(x.f0,x.f1,x.f5,())) zqua 3
theorem zuDa:zsaa zXla zLwa inl0 (body Tryz.f50.body):=lsL (.cons zzEa .nil) .nil
noncomputable def zhda (a0:Int) (a1:Tj) (K:Int→Option R):Option R :=
 zJba a0 (a1.length:Int) fun r2 =>
 loopN (zCha (fun w3 =>
 K w3)) zpaa ⟨r2,a1,0⟩
noncomputable def zSwa:CSpec:={ ins:=[(.val (.int .i64) .s),(.val (.sl 45 (.pair (.int .i64) (.pair (.int .i64) Ty0))) .s)],outs:=[((.int .i64),.s)],fn:=fun d K _=>zhda d.1 d.2.1 (fun r0=>K (r0,()) ()) }
theorem zaMa:Holds Tryz.prog 50 zSwa:=hw zXla [(4,none)] zfaa Tryz.func50 zuDa ⟨mixed,envTyOk.ty,envTyOk.eq⟩
noncomputable def zjMa:GE Tryz.prog:=⟨50,[],zSwa,zaMa⟩
noncomputable def zJQa:Nat→Bool
 |1=>true
 |_=>false
noncomputable def zPQa:Nat→Bool
 |7=>true
 |9=>true
 |11=>true
 |13=>true
 |15=>true
 |17=>true
 |19=>true
 |21=>true
 |_=>false
noncomputable def zNPa:Nat→Option (List Nat)
 |0=>some [0]
 |1|7=>some [1]
 |2|3|6=>some [1,58,59,60]
 |4=>some [1,4,58,59,60]
 |5=>some []
 |8|13|18|23|28|33|38|43=>some [1,5]
 |9|10|12=>some [1,5,68,69,70]
 |11=>some [1,5,7,68,69,70]
 |14|15|17=>some [1,5,85,86,87]
 |16=>some [1,5,9,85,86,87]
 |19|20|22=>some [1,5,102,103,104]
 |21=>some [1,5,11,102,103,104]
 |24|25|27=>some [1,5,118,119,120]
 |26=>some [1,5,13,118,119,120]
 |29|30|32=>some [1,5,130,131,132]
 |31=>some [1,5,15,130,131,132]
 |34|35|37=>some [1,5,143,144,145]
 |36=>some [1,5,17,143,144,145]
 |39|40|42=>some [1,5,159,160,161]
 |41=>some [1,5,19,159,160,161]
 |44|45|47=>some [5,175,176,177]
 |46=>some [5,21,175,176,177]
 |48=>some [5]
 |_=>none
noncomputable def zCPa:TypeId→Md
 |42=>(.p .s (.p (.o .s) (.p (.o .s) .s)))
 |_ => .s
noncomputable def zGba:Env:={ mE [ziMa,zjMa] Tryz.f28 with fz:=zJQa,fs:=zPQa,lv:=zNPa,om:=zCPa }
structure X_ref08_Short_2 where (f1:It21) (f58:Tl) (f59 f60:Int)
noncomputable def zsma (k_ret:Bool→Option R) (k_exit_0:It21→Option R) (rec:X_ref08_Short_2→Option R) (x:X_ref08_Short_2):Option R :=
 cond (decide (x.f60<x.f59))
 (cond (inB x.f60 x.f58.length)
 (cond (decide ((x.f58.getD x.f60.toNat 0)>70))
 (k_ret false)
 (rec ⟨x.f1,x.f58,x.f59,(IntKind.i64.wrap (x.f60+1))⟩)) none)
 (k_exit_0 x.f1)
noncomputable def zfma:LB:=⟨[.d 1 B8,.d 58 A5,.d 59 A0,.d 60 A0],[(.ret,[.d 2 A22]),((.exit 0),[.d 1 B8])]⟩
noncomputable def zrCa:LF X_ref08_Short_2:=fun _ K=>zsma (exS zfma 0 K) (exS zfma 1 K)
structure X_ref08_Short_9 where (f1:It21) (f5:Int) (f68:List Tq) (f69 f70:Int)
noncomputable def zrma (k_exit_2:It21→Int→Option R) (rec:X_ref08_Short_9→Option R) (x:X_ref08_Short_9):Option R :=
 cond (decide (x.f70<x.f69))
 (cond (inB x.f70 x.f68.length)
 (let v2:=x.f68.getD x.f70.toNat ([],([],()))
 zJba x.f5 (v2.1.length:Int) fun r5 =>
 zJba r5 (v2.2.1.length:Int) fun r6 =>
 rec ⟨x.f1,r6,x.f68,x.f69,(IntKind.i64.wrap (x.f70+1))⟩) none)
 (k_exit_2 x.f1 x.f5)
noncomputable def zDsa:LB:=⟨[.d 1 B8,.d 5 A0,.d 68 A6,.d 69 A0,.d 70 A0],[((.exit 2),[.d 1 B8,.d 5 A0])]⟩
noncomputable def zqCa:LF X_ref08_Short_9:=fun _ K=>zrma (exS zDsa 0 K)
structure X_ref08_Short_14 where (f1:It21) (f5:Int) (f85:List ((Tb)×It15)) (f86 f87:Int)
noncomputable def zSka (k_exit_4:It21→Int→Option R) (rec:X_ref08_Short_14→Option R) (x:X_ref08_Short_14):Option R :=
 cond (decide (x.f87<x.f86))
 (cond (inB x.f87 x.f85.length)
 (let v2:=x.f85.getD x.f87.toNat ([],([],(0,(0,((0,(false,(0,()))),(false,()))))))
 zJba x.f5 (v2.1.length:Int) fun r5 =>
 zJba r5 (v2.2.1.length:Int) fun r6 =>
 rec ⟨x.f1,r6,x.f85,x.f86,(IntKind.i64.wrap (x.f87+1))⟩) none)
 (k_exit_4 x.f1 x.f5)
noncomputable def zMpa:LB:=⟨[.d 1 B8,.d 5 A0,.d 85 A7,.d 86 A0,.d 87 A0],[((.exit 4),[.d 1 B8,.d 5 A0])]⟩
noncomputable def zEza:LF X_ref08_Short_14:=fun _ K=>zSka (exS zMpa 0 K)
structure X_ref08_Short_19 where (f1:It21) (f5:Int) (f102:List ((Int)×It13)) (f103 f104:Int)
noncomputable def zRka (k_exit_6:It21→Int→Option R) (rec:X_ref08_Short_19→Option R) (x:X_ref08_Short_19):Option R :=
 cond (decide (x.f104<x.f103))
 (cond (inB x.f104 x.f102.length)
 (let v2:=x.f102.getD x.f104.toNat (0,([],([],())))
 zJba x.f5 (v2.2.1.length:Int) fun r4 =>
 zhda r4 v2.2.2.1 fun r5 =>
 rec ⟨x.f1,r5,x.f102,x.f103,(IntKind.i64.wrap (x.f104+1))⟩) none)
 (k_exit_6 x.f1 x.f5)
noncomputable def zLpa:LB:=⟨[.d 1 B8,.d 5 A0,.d 102 A8,.d 103 A0,.d 104 A0],[((.exit 6),[.d 1 B8,.d 5 A0])]⟩
noncomputable def zDza:LF X_ref08_Short_19:=fun _ K=>zRka (exS zLpa 0 K)
structure X_ref08_Short_24 where (f1:It21) (f5:Int) (f118:List ((Int)×It16)) (f119 f120:Int)
noncomputable def zQka (k_exit_8:It21→Int→Option R) (rec:X_ref08_Short_24→Option R) (x:X_ref08_Short_24):Option R :=
 cond (decide (x.f120<x.f119))
 (cond (inB x.f120 x.f118.length)
 (zhda x.f5 (x.f118.getD x.f120.toNat (0,(false,([],())))).2.2.1 fun r3 =>
 rec ⟨x.f1,r3,x.f118,x.f119,(IntKind.i64.wrap (x.f120+1))⟩) none)
 (k_exit_8 x.f1 x.f5)
noncomputable def zKpa:LB:=⟨[.d 1 B8,.d 5 A0,.d 118 A9,.d 119 A0,.d 120 A0],[((.exit 8),[.d 1 B8,.d 5 A0])]⟩
noncomputable def zCza:LF X_ref08_Short_24:=fun _ K=>zQka (exS zKpa 0 K)
structure X_ref08_Short_29 where (f1:It21) (f5:Int) (f130:List Tx) (f131 f132:Int)
noncomputable def zPka (k_exit_10:It21→Int→Option R) (rec:X_ref08_Short_29→Option R) (x:X_ref08_Short_29):Option R :=
 cond (decide (x.f132<x.f131))
 (cond (inB x.f132 x.f130.length)
 (zJba x.f5 ((List.length (x.f130.getD x.f132.toNat ([],(0,(0,())))).1:Nat):Int) fun r4 =>
 rec ⟨x.f1,r4,x.f130,x.f131,(IntKind.i64.wrap (x.f132+1))⟩) none)
 (k_exit_10 x.f1 x.f5)
noncomputable def zJpa:LB:=⟨[.d 1 B8,.d 5 A0,.d 130 A10,.d 131 A0,.d 132 A0],[((.exit 10),[.d 1 B8,.d 5 A0])]⟩
noncomputable def zBza:LF X_ref08_Short_29:=fun _ K=>zPka (exS zJpa 0 K)
structure X_ref08_Short_34 where (f1:It21) (f5:Int) (f143:List ((Int)×It17)) (f144 f145:Int)
noncomputable def zOka (k_exit_12:It21→Int→Option R) (rec:X_ref08_Short_34→Option R) (x:X_ref08_Short_34):Option R :=
 cond (decide (x.f145<x.f144))
 (cond (inB x.f145 x.f143.length)
 (let v2:=x.f143.getD x.f145.toNat (0,([],([],())))
 zJba x.f5 (v2.2.2.1.length:Int) fun r4 =>
 zhda r4 v2.2.1 fun r5 =>
 rec ⟨x.f1,r5,x.f143,x.f144,(IntKind.i64.wrap (x.f145+1))⟩) none)
 (k_exit_12 x.f1 x.f5)
noncomputable def zIpa:LB:=⟨[.d 1 B8,.d 5 A0,.d 143 A11,.d 144 A0,.d 145 A0],[((.exit 12),[.d 1 B8,.d 5 A0])]⟩
noncomputable def zAza:LF X_ref08_Short_34:=fun _ K=>zOka (exS zIpa 0 K)
structure X_ref08_Short_39 where (f1:It21) (f5:Int) (f159:List ((Int)×It17)) (f160 f161:Int)
noncomputable def zNka (k_exit_14:It21→Int→Option R) (rec:X_ref08_Short_39→Option R) (x:X_ref08_Short_39):Option R :=
 cond (decide (x.f161<x.f160))
 (cond (inB x.f161 x.f159.length)
 (let v2:=x.f159.getD x.f161.toNat (0,([],([],())))
 zJba x.f5 (v2.2.2.1.length:Int) fun r4 =>
 zhda r4 v2.2.1 fun r5 =>
 rec ⟨x.f1,r5,x.f159,x.f160,(IntKind.i64.wrap (x.f161+1))⟩) none)
 (k_exit_14 x.f1 x.f5)
noncomputable def zHpa:LB:=⟨[.d 1 B8,.d 5 A0,.d 159 A12,.d 160 A0,.d 161 A0],[((.exit 14),[.d 1 B8,.d 5 A0])]⟩
noncomputable def zzza:LF X_ref08_Short_39:=fun _ K=>zNka (exS zHpa 0 K)
structure X_ref08_Short_44 where (f5:Int) (f175:List Tv) (f176 f177:Int)
noncomputable def zMka (k_exit_16:Int→Option R) (rec:X_ref08_Short_44→Option R) (x:X_ref08_Short_44):Option R :=
 cond (decide (x.f177<x.f176))
 (cond (inB x.f177 x.f175.length)
 (let v2:=x.f175.getD x.f177.toNat ([],([],()))
 zJba x.f5 (v2.1.length:Int) fun r5 =>
 zJba r5 (v2.2.1.length:Int) fun r6 =>
 rec ⟨r6,x.f175,x.f176,(IntKind.i64.wrap (x.f177+1))⟩) none)
 (k_exit_16 x.f5)
noncomputable def zGpa:LB:=⟨[.d 5 A0,.d 175 A13,.d 176 A0,.d 177 A0],[((.exit 16),[.d 5 A0])]⟩
noncomputable def zyza:LF X_ref08_Short_44:=fun _ K=>zMka (exS zGpa 0 K)
noncomputable def zxca:Loops:=fun z i R st K=>match z,i with
 |false,2=>lpS zfma X_ref08_Short_2.mk zrCa K st
 |false,9=>lpS zDsa X_ref08_Short_9.mk zqCa K st
 |false,14=>lpS zMpa X_ref08_Short_14.mk zEza K st
 |false,19=>lpS zLpa X_ref08_Short_19.mk zDza K st
 |false,24=>lpS zKpa X_ref08_Short_24.mk zCza K st
 |false,29=>lpS zJpa X_ref08_Short_29.mk zBza K st
 |false,34=>lpS zIpa X_ref08_Short_34.mk zAza K st
 |false,39=>lpS zHpa X_ref08_Short_39.mk zzza K st
 |false,44=>lpS zGpa X_ref08_Short_44.mk zyza K st
 |_,_=>none
theorem zVKa:LOk zGba zxca inl0 2 Tryz.f28:=lok zfma X_ref08_Short_2.mk (fun x=>(x.f1,x.f58,x.f59,x.f60,())) zrCa 2
theorem zUKa:LOk zGba zxca inl0 9 Tryz.f28:=lok zDsa X_ref08_Short_9.mk (fun x=>(x.f1,x.f5,x.f68,x.f69,x.f70,())) zqCa 9
theorem zgJa:LOk zGba zxca inl0 14 Tryz.f28:=lok zMpa X_ref08_Short_14.mk (fun x=>(x.f1,x.f5,x.f85,x.f86,x.f87,())) zEza 14
theorem zfJa:LOk zGba zxca inl0 19 Tryz.f28:=lok zLpa X_ref08_Short_19.mk (fun x=>(x.f1,x.f5,x.f102,x.f103,x.f104,())) zDza 19
theorem zeJa:LOk zGba zxca inl0 24 Tryz.f28:=lok zKpa X_ref08_Short_24.mk (fun x=>(x.f1,x.f5,x.f118,x.f119,x.f120,())) zCza 24
theorem zdJa:LOk zGba zxca inl0 29 Tryz.f28:=lok zJpa X_ref08_Short_29.mk (fun x=>(x.f1,x.f5,x.f130,x.f131,x.f132,())) zBza 29
theorem zcJa:LOk zGba zxca inl0 34 Tryz.f28:=lok zIpa X_ref08_Short_34.mk (fun x=>(x.f1,x.f5,x.f143,x.f144,x.f145,())) zAza 34
theorem zbJa:LOk zGba zxca inl0 39 Tryz.f28:=lok zHpa X_ref08_Short_39.mk (fun x=>(x.f1,x.f5,x.f159,x.f160,x.f161,())) zzza 39
theorem zaJa:LOk zGba zxca inl0 44 Tryz.f28:=lok zGpa X_ref08_Short_44.mk (fun x=>(x.f5,x.f175,x.f176,x.f177,())) zyza 44
theorem zuJa:zsaa zGba zxca inl0 (body Tryz.f28.body):=lsL (.cons zVKa (.cons zUKa (.cons zgJa (.cons zfJa (.cons zeJa (.cons zdJa (.cons zcJa (.cons zbJa (.cons zaJa .nil))))))))) .nil
noncomputable def zKra (a0:It21) (K:Bool→Option R):Option R :=
 let v13:=List.set (List.set (List.set (List.set (List.set (List.set (List.set (List.set (List.set (List.set (List.set (List.set (List.replicate 12 (0:Int)) 0 (a0.1.length:Int)) 1 (a0.2.1.length:Int)) 2 (a0.2.2.1.length:Int)) 3 (a0.2.2.2.1.length:Int)) 4 (a0.2.2.2.2.1.length:Int)) 5 (a0.2.2.2.2.2.1.length:Int)) 6 (a0.2.2.2.2.2.2.1.length:Int)) 7 (a0.2.2.2.2.2.2.2.1.length:Int)) 8 (a0.2.2.2.2.2.2.2.2.1.length:Int)) 9 (a0.2.2.2.2.2.2.2.2.2.1.length:Int)) 10 (a0.2.2.2.2.2.2.2.2.2.2.1.length:Int)) 11 (a0.2.2.2.2.2.2.2.2.2.2.2.1.length:Int)
 loopN (zsma (fun w15 =>
 K w15) (fun w16 =>
 loopN (zrma (fun w18 w19 =>
 loopN (zSka (fun w21 w22 =>
 loopN (zRka (fun w24 w25 =>
 loopN (zQka (fun w27 w28 =>
 loopN (zPka (fun w30 w31 =>
 loopN (zOka (fun w33 w34 =>
 loopN (zNka (fun w36 w37 =>
 loopN (zMka (fun w39 =>
 K (decide (w39≥0)))) zpaa ⟨w37,w36.2.2.2.2.2.2.2.2.2.2.2.1,(w36.2.2.2.2.2.2.2.2.2.2.2.1.length:Int),0⟩)) zpaa ⟨w33,w34,w33.2.2.2.2.2.2.2.2.2.2.1,(w33.2.2.2.2.2.2.2.2.2.2.1.length:Int),0⟩)) zpaa ⟨w30,w31,w30.2.2.2.2.2.2.2.2.1,(w30.2.2.2.2.2.2.2.2.1.length:Int),0⟩)) zpaa ⟨w27,w28,w27.2.2.2.2.2.2.1,(w27.2.2.2.2.2.2.1.length:Int),0⟩)) zpaa ⟨w24,w25,w24.2.2.2.2.2.1,(w24.2.2.2.2.2.1.length:Int),0⟩)) zpaa ⟨w21,w22,w21.2.2.1,(w21.2.2.1.length:Int),0⟩)) zpaa ⟨w18,w19,w18.2.1,(w18.2.1.length:Int),0⟩)) zpaa ⟨w16,0,w16.1,(w16.1.length:Int),0⟩)) zpaa ⟨a0,v13,(v13.length:Int),0⟩
noncomputable def ziFa:CSpec:={ ins:=[(.val Ty32 .s)],outs:=[(.bool,.s)],fn:=fun d K _=>zKra d.1 (fun r0=>K (r0,()) ()) }
theorem zqSa:Holds Tryz.prog 28 ziFa:=hw zGba [(2,none)] zfaa Tryz.func28 zuJa ⟨mixed,envTyOk.ty,envTyOk.eq⟩
noncomputable def zISa:GE Tryz.prog:=⟨28,[],ziFa,zqSa⟩
noncomputable def zgUa:TypeId→Md
 |42=>(.p .s (.p (.o .s) (.p (.o .s) .s)))
 |_ => .s
noncomputable def zaza:Env:={ E0 with n:=Tryz.f89.ntmps,om:=zgUa }
structure X_ref08_see_2 where (f5:Tl) (f6 f7:Int)
noncomputable def zosa (k_ret:Bool→Option R) (k_exit_0:Option R) (rec:X_ref08_see_2→Option R) (x:X_ref08_see_2):Option R :=
 cond (decide (x.f7<x.f6))
 (cond (inB x.f7 x.f5.length)
 (let v2:=x.f5.getD x.f7.toNat 0
 cond (decide (v2<0))
 (k_ret false)
 (cond (decide (v2>4294967295))
 (k_ret false)
 (rec ⟨x.f5,x.f6,(IntKind.i64.wrap (x.f7+1))⟩))) none)
 (k_exit_0)
noncomputable def zHra:LB:=⟨[.d 5 A2,.d 6 A0,.d 7 A0],[(.ret,[.d 2 A22]),((.exit 0),[])]⟩
noncomputable def zpIa:LF X_ref08_see_2:=fun _ K=>zosa (exS zHra 0 K) (exS zHra 1 K)
noncomputable def zpLa:Loops:=fun z i R st K=>match z,i with
 |false,2=>lpS zHra X_ref08_see_2.mk zpIa K st
 |_,_=>none
theorem zEPa:LOk zaza zpLa inl0 2 Tryz.f89:=lok zHra X_ref08_see_2.mk (fun x=>(x.f5,x.f6,x.f7,())) zpIa 2
theorem zWNa:zsaa zaza zpLa inl0 (body Tryz.f89.body):=lsL (.cons zEPa .nil) .nil
noncomputable def zkja (a0:Tl) (K:Bool→Option R):Option R :=
 loopN (zosa (fun w2 =>
 K w2) (K true)) zpaa ⟨a0,(a0.length:Int),0⟩
noncomputable def zJMa:CSpec:={ ins:=[(.val (.sl 3 (.int .i64)) .s)],outs:=[(.bool,.s)],fn:=fun d K _=>zkja d.1 (fun r0=>K (r0,()) ()) }
theorem zyWa:Holds Tryz.prog 89 zJMa:=hw zaza [(2,none)] zfaa Tryz.func89 zWNa ⟨mixed,envTyOk.ty,envTyOk.eq⟩
noncomputable def zNWa:GE Tryz.prog:=⟨89,[],zJMa,zyWa⟩
noncomputable def zODa:Nat→Bool
 |1=>true
 |_=>false
noncomputable def zuBa:Env:={ E0 with n:=Tryz.f90.ntmps,fz:=zODa }
noncomputable def zIda (a0:Tm) (K:Bool→Option R):Option R :=
 cond (decide (a0.1≥0))
 (cond (decide (a0.1≤4294967295))
 (cond (decide (a0.2.2.1≥0))
 (cond (decide (a0.2.2.1≤4294967295))
 (cond a0.2.1
 (K true)
 (K (a0.2.2.1==0)))
 (K false))
 (K false))
 (K false))
 (K false)
noncomputable def zVqa:CSpec:={ ins:=[(.val (.pair (.int .i64) (.pair .bool (.pair (.int .i64) .unit))) .s)],outs:=[(.bool,.s)],fn:=fun d K _=>zIda d.1 (fun r0=>K (r0,()) ()) }
theorem zVEa:Holds Tryz.prog 90 zVqa:=hw zuBa [(2,none)] (lp:=lp0) (code:=body Tryz.f90.body) zfaa Tryz.func90 l0 ⟨mixed,envTyOk.ty,envTyOk.eq⟩
noncomputable def zcFa:GE Tryz.prog:=⟨90,[],zVqa,zVEa⟩
noncomputable def zMQa:Nat→Bool
 |1=>true
 |_=>false
noncomputable def zpma:Env:={ E0 with n:=Tryz.f91.ntmps,fz:=zMQa }
structure X_ref05_Right_7 where (f4:Tl) (f5:Int) (f10:List Tl) (f11 f12:Int)
noncomputable def zvma (k_ret:Bool→Option R) (k_exit_2:(List Tl)→Int→Int→Option R) (rec:X_ref05_Right_7→Option R) (x:X_ref05_Right_7):Option R :=
 cond (decide (x.f5<(x.f4.length:Int)))
 (cond (inB x.f5 x.f4.length)
 (cond ((x.f4.getD x.f5.toNat 0) != 127)
 (cond (inB x.f5 x.f4.length)
 (cond ((x.f4.getD x.f5.toNat 0) != 126)
 (k_ret false)
 (rec ⟨x.f4,(IntKind.i64.wrap (x.f5+1)),x.f10,x.f11,x.f12⟩)) none)
 (rec ⟨x.f4,(IntKind.i64.wrap (x.f5+1)),x.f10,x.f11,x.f12⟩)) none)
 (k_exit_2 x.f10 x.f11 x.f12)
noncomputable def zhma:LB:=⟨[.d 4 A2,.d 5 A0,.d 10 A14,.d 11 A0,.d 12 A0],[(.ret,[.d 2 A22]),((.exit 2),[.d 10 A14,.d 11 A0,.d 12 A0])]⟩
noncomputable def zDCa:LF X_ref05_Right_7:=fun _ K=>zvma (exS zhma 0 K) (exS zhma 1 K)
structure X_ref05_Right_2 where (f10:List Tl) (f11 f12:Int)
noncomputable def zwma (k_ret:Bool→Option R) (k_exit_0:Option R) (rec:X_ref05_Right_2→Option R) (x:X_ref05_Right_2):Option R :=
 cond (decide (x.f12<x.f11))
 (cond (inB x.f12 x.f10.length)
 (let v2:=(x.f10.getD x.f12.toNat [])
 cond (decide ((v2.length:Int)>8))
 (k_ret false)
 (loopN (zvma (fun w5 =>
 k_ret w5) (fun w6 w7 w8 =>
 rec ⟨w6,w7,(IntKind.i64.wrap (w8+1))⟩)) zpaa ⟨v2,0,x.f10,x.f11,x.f12⟩)) none)
 (k_exit_0)
noncomputable def zima:LB:=⟨[.d 10 A14,.d 11 A0,.d 12 A0],[(.ret,[.d 2 A22]),((.exit 0),[])]⟩
noncomputable def zECa:LF X_ref05_Right_2:=fun _ K=>zwma (exS zima 0 K) (exS zima 1 K)
noncomputable def zvva:Loops:=fun z i R st K=>match z,i with
 |false,7=>lpS zhma X_ref05_Right_7.mk zDCa K st
 |false,2=>lpS zima X_ref05_Right_2.mk zECa K st
 |_,_=>none
theorem zhLa:LOk zpma zvva inl0 7 Tryz.f91:=lok zhma X_ref05_Right_7.mk (fun x=>(x.f4,x.f5,x.f10,x.f11,x.f12,())) zDCa 7
theorem ziLa:LOk zpma zvva inl0 2 Tryz.f91:=lok zima X_ref05_Right_2.mk (fun x=>(x.f10,x.f11,x.f12,())) zECa 2
theorem zyJa:zsaa zpma zvva inl0 (body Tryz.f91.body):=lsL (.cons ziLa (.cons zhLa .nil)) .nil
noncomputable def zNra (a0:Tq) (K:Bool→Option R):Option R :=
 let v1:=List.set (List.set (List.replicate 2 ([]:List (Int))) 0 a0.1) 1 a0.2.1
 loopN (zwma (fun w3 =>
 K w3) (K true)) zpaa ⟨v1,(v1.length:Int),0⟩
noncomputable def znFa:CSpec:={ ins:=[(.val (.pair (.sl 3 (.int .i64)) (.pair (.sl 3 (.int .i64)) .unit)) .s)],outs:=[(.bool,.s)],fn:=fun d K _=>zNra d.1 (fun r0=>K (r0,()) ()) }
theorem zvSa:Holds Tryz.prog 91 znFa:=hw zpma [(2,none)] zfaa Tryz.func91 zyJa ⟨mixed,envTyOk.ty,envTyOk.eq⟩
noncomputable def zMSa:GE Tryz.prog:=⟨91,[],znFa,zvSa⟩
noncomputable def zWDa:Env:={ E0 with n:=Tryz.f88.ntmps }
structure X_ref04_Of_3 where (f0:Int) (f2:(Int)×(Int)×(Int)×(Bool)×(Bool)×Unit) (f4:List ((Int)×(Int)×(Int)×(Bool)×(Bool)×Unit)) (f5:Int)
noncomputable def zywa (k_ret:((Int)×(Int)×(Int)×(Bool)×(Bool)×Unit)→Bool→Option R) (k_exit_0:((Int)×(Int)×(Int)×(Bool)×(Bool)×Unit)→Option R) (rec:X_ref04_Of_3→Option R) (x:X_ref04_Of_3):Option R :=
 cond (decide (x.f5<(x.f4.length:Int)))
 (cond (inB x.f5 x.f4.length)
 (cond (((x.f4.getD x.f5.toNat (0,(0,(0,(false,(false,())))))).1)==x.f0)
 (cond (inB x.f5 x.f4.length)
 (k_ret (x.f4.getD x.f5.toNat (0,(0,(0,(false,(false,())))))) true) none)
 (rec ⟨x.f0,x.f2,x.f4,(IntKind.i64.wrap (x.f5+1))⟩)) none)
 (k_exit_0 x.f2)
noncomputable def zRua:LB:=⟨[.d 0 A0,.d 2 B9,.d 4 A15,.d 5 A0],[(.ret,[.d 2 B9,.d 3 A22]),((.exit 0),[.d 2 B9])]⟩
noncomputable def zaNa:LF X_ref04_Of_3:=fun _ K=>zywa (exS zRua 0 K) (exS zRua 1 K)
noncomputable def zKOa:Loops:=fun z i R st K=>match z,i with
 |false,3=>lpS zRua X_ref04_Of_3.mk zaNa K st
 |_,_=>none
theorem zXRa:LOk zWDa zKOa inl0 3 Tryz.f88:=lok zRua X_ref04_Of_3.mk (fun x=>(x.f0,x.f2,x.f4,x.f5,())) zaNa 3
theorem zSPa:zsaa zWDa zKOa inl0 (body Tryz.f88.body):=lsL (.cons zXRa .nil) .nil
noncomputable def zuEa (a0:Int) (K:((Int)×(Int)×(Int)×(Bool)×(Bool)×Unit)→Bool→Option R):Option R :=
 loopN (zywa (fun w2 w3 =>
 K w2 w3) (fun w4 =>
 K (0,(0,(0,(false,(false,()))))) false)) zpaa ⟨a0,(0,(0,(0,(false,(false,()))))),(List.set (List.set (List.set (List.set (List.set (List.set (List.set (List.set (List.set (List.set (List.set (List.set (List.set (List.set (List.set (List.set (List.set (List.set (List.set (List.replicate 19 ((0:Int),((0:Int),((0:Int),(false,(false,())))))) 0 (40,(32,(4,(false,(false,())))))) 1 (41,(64,(8,(false,(false,())))))) 2 (44,(32,(1,(true,(false,())))))) 3 (45,(32,(1,(false,(false,())))))) 4 (46,(32,(2,(true,(false,())))))) 5 (47,(32,(2,(false,(false,())))))) 6 (48,(64,(1,(true,(false,())))))) 7 (49,(64,(1,(false,(false,())))))) 8 (50,(64,(2,(true,(false,())))))) 9 (51,(64,(2,(false,(false,())))))) 10 (52,(64,(4,(true,(false,())))))) 11 (53,(64,(4,(false,(false,())))))) 12 (54,(32,(4,(false,(true,())))))) 13 (55,(64,(8,(false,(true,())))))) 14 (58,(32,(1,(false,(true,())))))) 15 (59,(32,(2,(false,(true,())))))) 16 (60,(64,(1,(false,(true,())))))) 17 (61,(64,(2,(false,(true,())))))) 18 (62,(64,(4,(false,(true,())))))),0⟩
noncomputable def zYOa:CSpec:={ ins:=[(.val (.int .i64) .s)],outs:=[((.pair (.int .i64) Ty33),.s),(.bool,.s)],fn:=fun d K _=>zuEa d.1 (fun r0 r1=>K (r0,r1,()) ()) }
theorem zZXa:Holds Tryz.prog 88 zYOa:=hw zWDa [(2,some 176),(3,none)] zfaa Tryz.func88 zSPa ⟨mixed,envTyOk.ty,envTyOk.eq⟩
noncomputable def zfYa:GE Tryz.prog:=⟨88,[],zYOa,zZXa⟩
noncomputable def zCMa:Env:={ E0 with n:=Tryz.f168.ntmps }
noncomputable def zKoa (a0:Int) (K:Int→Option R):Option R :=
 let k1:Option R:=(let k2:Option R:=(cond (a0==167)
 (K 126)
 (cond (decide (a0≥194))
 (cond (decide (a0≤196))
 (K 126)
 (K 127))
 (K 127)))
 cond (decide (a0≥121))
 (cond (decide (a0≤138))
 (K 126)
 (k2))
 (k2))
 cond (decide (a0≥80))
 (cond (decide (a0≤90))
 (K 126)
 (k1))
 (k1)
noncomputable def zhCa:CSpec:={ ins:=[(.val (.int .i64) .s)],outs:=[((.int .i64),.s)],fn:=fun d K _=>zKoa d.1 (fun r0=>K (r0,()) ()) }
theorem zmQa:Holds Tryz.prog 168 zhCa:=hw zCMa [(2,none)] (lp:=lp0) (code:=body Tryz.f168.body) zfaa Tryz.func168 l0 ⟨mixed,envTyOk.ty,envTyOk.eq⟩
noncomputable def zDQa:GE Tryz.prog:=⟨168,[],zhCa,zmQa⟩
noncomputable def zmTa:Env:={ E0 with n:=Tryz.f188.ntmps }
noncomputable def zcda (a0 a1:Int) (K:Int→Option R):Option R :=
 cond (decide (a1≥64))
 (K a0)
 (let v2:=IntKind.u64.wrap a1
 cond (decide (0≤v2))
 (let v3:=shlI .u64 1 v2
 cond (v3 != 0)
 (K (Int.tmod a0 v3)) none) none)
noncomputable def zQMa:CSpec:={ ins:=[(.val (.int .u64) .s),(.val (.int .i64) .s)],outs:=[((.int .u64),.s)],fn:=fun d K _=>zcda d.1 d.2.1 (fun r0=>K (r0,()) ()) }
theorem zFWa:Holds Tryz.prog 188 zQMa:=hw zmTa [(4,none)] (lp:=lp0) (code:=body Tryz.f188.body) zfaa Tryz.func188 l0 ⟨mixed,envTyOk.ty,envTyOk.eq⟩
noncomputable def zYGa:GE Tryz.prog:=⟨188,[],zQMa,zFWa⟩
noncomputable def zlTa:Env:={ E0 with n:=Tryz.f189.ntmps }
noncomputable def zbda (a0:Bool) (K:Int→Option R):Option R :=
 cond a0
 (K 1)
 (K 0)
noncomputable def zPMa:CSpec:={ ins:=[(.val .bool .s)],outs:=[((.int .u64),.s)],fn:=fun d K _=>zbda d.1 (fun r0=>K (r0,()) ()) }
theorem zEWa:Holds Tryz.prog 189 zPMa:=hw zlTa [(2,none)] (lp:=lp0) (code:=body Tryz.f189.body) zfaa Tryz.func189 l0 ⟨mixed,envTyOk.ty,envTyOk.eq⟩
noncomputable def zTOa:GE Tryz.prog:=⟨189,[],zPMa,zEWa⟩
noncomputable def znTa:Env:={ E0 with n:=Tryz.f190.ntmps }
noncomputable def zpca (a0 a1:Int) (K:Int→Option R):Option R :=
 let v1:=IntKind.u64.wrap a1
 cond (decide (0≤v1))
 (cond (2 != 0)
 (K (Int.tmod (shrI .u64 a0 v1) 2)) none) none
noncomputable def zRMa:CSpec:={ ins:=[(.val (.int .u64) .s),(.val (.int .i64) .s)],outs:=[((.int .u64),.s)],fn:=fun d K _=>zpca d.1 d.2.1 (fun r0=>K (r0,()) ()) }
theorem zGWa:Holds Tryz.prog 190 zRMa:=hw znTa [(4,none)] (lp:=lp0) (code:=body Tryz.f190.body) zfaa Tryz.func190 l0 ⟨mixed,envTyOk.ty,envTyOk.eq⟩
noncomputable def zWla:GE Tryz.prog:=⟨190,[],zRMa,zGWa⟩
noncomputable def zKqa:Env:=mE [zWla] Tryz.f191
structure X_ref03_spread_3 where (f0 f1 f7 f8:Int)
noncomputable def zdla (k_exit_0:Int→Option R) (rec:X_ref03_spread_3→Option R) (x:X_ref03_spread_3):Option R :=
 cond (decide (x.f8≥0))
 (cond (decide (x.f8≥x.f1))
 (zpca x.f0 (IntKind.i64.wrap (x.f1-1)) fun r5 =>
 rec ⟨x.f0,x.f1,(IntKind.u64.wrap ((IntKind.u64.wrap (x.f7*2))+r5)),(IntKind.i64.wrap (x.f8-1))⟩)
 (zpca x.f0 x.f8 fun r9 =>
 rec ⟨x.f0,x.f1,(IntKind.u64.wrap ((IntKind.u64.wrap (x.f7*2))+r9)),(IntKind.i64.wrap (x.f8-1))⟩))
 (k_exit_0 x.f7)
noncomputable def zQpa:LB:=⟨[.d 0 A16,.d 1 A0,.d 7 A16,.d 8 A0],[((.exit 0),[.d 7 A16])]⟩
noncomputable def zNza:LF X_ref03_spread_3:=fun _ K=>zdla (exS zQpa 0 K)
noncomputable def zGBa:Loops:=fun z i R st K=>match z,i with
 |false,3=>lpS zQpa X_ref03_spread_3.mk zNza K st
 |_,_=>none
theorem zpJa:LOk zKqa zGBa inl0 3 Tryz.f191:=lok zQpa X_ref03_spread_3.mk (fun x=>(x.f0,x.f1,x.f7,x.f8,())) zNza 3
theorem zDGa:zsaa zKqa zGBa inl0 (body Tryz.f191.body):=lsL (.cons zpJa .nil) .nil
noncomputable def zXca (a0 a1 a2:Int) (K:Int→Option R):Option R :=
 loopN (zdla (fun w2 =>
 K w2)) zpaa ⟨a0,a1,0,(IntKind.i64.wrap (a2-1))⟩
noncomputable def zgCa:CSpec:={ ins:=[(.val (.int .u64) .s),(.val (.int .i64) .s),(.val (.int .i64) .s)],outs:=[((.int .u64),.s)],fn:=fun d K _=>zXca d.1 d.2.1 d.2.2.1 (fun r0=>K (r0,()) ()) }
theorem zlQa:Holds Tryz.prog 191 zgCa:=hw zKqa [(6,none)] zfaa Tryz.func191 zDGa ⟨mixed,envTyOk.ty,envTyOk.eq⟩
noncomputable def zCQa:GE Tryz.prog:=⟨191,[],zgCa,zlQa⟩
noncomputable def ztWa:Nat→Option (List Nat)
 |0|1|3=>some [0,1]
 |2|4=>some [0,1,6]
 |5=>some [0,1,6,7]
 |6=>some [0,1,6,7,8]
 |7=>some []
 |8|9|11|12|17|18|23|24=>some [1,6,7,8,25]
 |10=>some [7]
 |13|19|25=>some [6,7,8]
 |14|15|16=>some [7,8,9]
 |20|21|22=>some [6,7,8,10]
 |26|27|28=>some [6,7,8,11]
 |29|30|32|33|35|37|39|41=>some [1,25]
 |31|34|36|38|40|42=>some [1]
 |43=>some [8]
 |_=>none
noncomputable def zMqa:Env:={ mE [zYGa,zTOa,zWla,zCQa] Tryz.f169 with lv:=ztWa }
structure X_ref03_Un_14 where (f7 f8 f9:Int)
noncomputable def zfna (k_exit_1:Int→Option R) (rec:X_ref03_Un_14→Option R) (x:X_ref03_Un_14):Option R :=
 cond (decide (x.f9≥0))
 (zpca x.f7 x.f9 fun r2 =>
 cond (r2==0)
 (rec ⟨x.f7,(IntKind.u64.wrap (x.f8+1)),(IntKind.i64.wrap (x.f9-1))⟩)
 (k_exit_1 x.f8))
 (k_exit_1 x.f8)
noncomputable def zXxa:LB:=⟨[.d 7 A16,.d 8 A16,.d 9 A0],[((.exit 1),[.d 8 A16])]⟩
noncomputable def zuIa:LF X_ref03_Un_14:=fun _ K=>zfna (exS zXxa 0 K)
structure X_ref03_Un_20 where (f6 f7 f8 f10:Int)
noncomputable def zena (k_exit_3:Int→Option R) (rec:X_ref03_Un_20→Option R) (x:X_ref03_Un_20):Option R :=
 cond (decide (x.f10<x.f6))
 (zpca x.f7 x.f10 fun r2 =>
 cond (r2==0)
 (rec ⟨x.f6,x.f7,(IntKind.u64.wrap (x.f8+1)),(IntKind.i64.wrap (x.f10+1))⟩)
 (k_exit_3 x.f8))
 (k_exit_3 x.f8)
noncomputable def zWxa:LB:=⟨[.d 6 A0,.d 7 A16,.d 8 A16,.d 10 A0],[((.exit 3),[.d 8 A16])]⟩
noncomputable def ztIa:LF X_ref03_Un_20:=fun _ K=>zena (exS zWxa 0 K)
structure X_ref03_Un_26 where (f6 f7 f8 f11:Int)
noncomputable def zdna (k_exit_5:Int→Option R) (rec:X_ref03_Un_26→Option R) (x:X_ref03_Un_26):Option R :=
 cond (decide (x.f11<x.f6))
 (zpca x.f7 x.f11 fun r2 =>
 rec ⟨x.f6,x.f7,(IntKind.u64.wrap (x.f8+r2)),(IntKind.i64.wrap (x.f11+1))⟩)
 (k_exit_5 x.f8)
noncomputable def zVxa:LB:=⟨[.d 6 A0,.d 7 A16,.d 8 A16,.d 11 A0],[((.exit 5),[.d 8 A16])]⟩
noncomputable def zsIa:LF X_ref03_Un_26:=fun _ K=>zdna (exS zVxa 0 K)
noncomputable def zWza:Loops:=fun z i R st K=>match z,i with
 |false,14=>lpS zXxa X_ref03_Un_14.mk zuIa K st
 |false,20=>lpS zWxa X_ref03_Un_20.mk ztIa K st
 |false,26=>lpS zVxa X_ref03_Un_26.mk zsIa K st
 |_,_=>none
theorem zJPa:LOk zMqa zWza inl0 14 Tryz.f169:=lok zXxa X_ref03_Un_14.mk (fun x=>(x.f7,x.f8,x.f9,())) zuIa 14
theorem zIPa:LOk zMqa zWza inl0 20 Tryz.f169:=lok zWxa X_ref03_Un_20.mk (fun x=>(x.f6,x.f7,x.f8,x.f10,())) ztIa 20
theorem zHPa:LOk zMqa zWza inl0 26 Tryz.f169:=lok zVxa X_ref03_Un_26.mk (fun x=>(x.f6,x.f7,x.f8,x.f11,())) zsIa 26
theorem zTPa:zsaa zMqa zWza inl0 (body Tryz.f169.body):=lsL (.cons zJPa (.cons zIPa (.cons zHPa .nil))) .nil
noncomputable def zvEa (a0 a1:Int) (K:Int→Bool→Option R):Option R :=
 let k3:Option R:=(cond (a0==167)
 (zcda a1 32 fun r63 =>
 K r63 true)
 (cond (a0==173)
 (zcda a1 32 fun r65 =>
 K r65 true)
 (cond (a0==172)
 (zXca a1 32 64 fun r67 =>
 K r67 true)
 (cond (a0==196)
 (zXca a1 32 64 fun r69 =>
 K r69 true)
 (cond (a0==192)
 (zXca a1 8 32 fun r71 =>
 K r71 true)
 (cond (a0==193)
 (zXca a1 16 32 fun r73 =>
 K r73 true)
 (cond (a0==194)
 (zXca a1 8 64 fun r75 =>
 K r75 true)
 (cond (a0==195)
 (zXca a1 16 64 fun r77 =>
 K r77 true)
 (K 0 false)))))))))
 let k2:Option R:=(zcda a1 64 fun r41 =>
 cond (a0==69)
 (zbda (r41==0) fun r44 =>
 K r44 true)
 (cond (a0==80)
 (zbda (r41==0) fun r47 =>
 K r47 true)
 (let k4:Option R:=(loopN (zfna (fun w50 =>
 K w50 true)) zpaa ⟨r41,0,(IntKind.i64.wrap (64-1))⟩)
 cond (a0==103)
 (k4)
 (cond (a0==121)
 (k4)
 (let k6:Option R:=(loopN (zena (fun w55 =>
 K w55 true)) zpaa ⟨64,r41,0,0⟩)
 cond (a0==104)
 (k6)
 (cond (a0==122)
 (k6)
 (let k7:Option R:=(loopN (zdna (fun w59 =>
 K w59 true)) zpaa ⟨64,r41,0,0⟩)
 cond (a0==105)
 (k7)
 (cond (a0==123)
 (k7)
 (k3)))))))))
 let k1:Option R:=(cond (a0==80)
 (k2)
 (zcda a1 32 fun r78 =>
 cond (a0==69)
 (zbda (r78==0) fun r81 =>
 K r81 true)
 (cond (a0==80)
 (zbda (r78==0) fun r84 =>
 K r84 true)
 (let k5:Option R:=(loopN (zfna (fun w87 =>
 K w87 true)) zpaa ⟨r78,0,(IntKind.i64.wrap (32-1))⟩)
 cond (a0==103)
 (k5)
 (cond (a0==121)
 (k5)
 (let k8:Option R:=(loopN (zena (fun w92 =>
 K w92 true)) zpaa ⟨32,r78,0,0⟩)
 cond (a0==104)
 (k8)
 (cond (a0==122)
 (k8)
 (let k9:Option R:=(loopN (zdna (fun w96 =>
 K w96 true)) zpaa ⟨32,r78,0,0⟩)
 cond (a0==105)
 (k9)
 (cond (a0==123)
 (k9)
 (k3))))))))))
 cond (decide (a0≥121))
 (cond (decide (a0≤123))
 (k2)
 (k1))
 (k1)
noncomputable def zZOa:CSpec:={ ins:=[(.val (.int .i64) .s),(.val (.int .u64) .s)],outs:=[((.int .u64),.s),(.bool,.s)],fn:=fun d K _=>zvEa d.1 d.2.1 (fun r0 r1=>K (r0,r1,()) ()) }
theorem zaYa:Holds Tryz.prog 169 zZOa:=hw zMqa [(4,none),(5,none)] zfaa Tryz.func169 zTPa ⟨mixed,envTyOk.ty,envTyOk.eq⟩
noncomputable def zgYa:GE Tryz.prog:=⟨169,[],zZOa,zaYa⟩
noncomputable def zbRa:Env:={ E0 with n:=Tryz.f192.ntmps }
noncomputable def zTia (a0 a1 a2:Int) (a3:Bool) (K:Bool→Option R):Option R :=
 cond a3
 (let v2:=IntKind.u64.wrap (IntKind.i64.wrap (a2-1))
 cond (decide (0≤v2))
 (let v3:=shlI .u64 1 v2
 K (decide ((IntKind.u64.wrap ((BitVec.ofInt IntKind.u64.bits a0 ^^^ BitVec.ofInt IntKind.u64.bits v3).toNat))<(IntKind.u64.wrap ((BitVec.ofInt IntKind.u64.bits a1 ^^^ BitVec.ofInt IntKind.u64.bits v3).toNat))))) none)
 (K (decide (a0<a1)))
noncomputable def zYHa:CSpec:={ ins:=[(.val (.int .u64) .s),(.val (.int .u64) .s),(.val (.int .i64) .s),(.val .bool .s)],outs:=[(.bool,.s)],fn:=fun d K _=>zTia d.1 d.2.1 d.2.2.1 d.2.2.2.1 (fun r0=>K (r0,()) ()) }
theorem zKUa:Holds Tryz.prog 192 zYHa:=hw zbRa [(8,none)] (lp:=lp0) (code:=body Tryz.f192.body) zfaa Tryz.func192 l0 ⟨mixed,envTyOk.ty,envTyOk.eq⟩
noncomputable def ziVa:GE Tryz.prog:=⟨192,[],zYHa,zKUa⟩
noncomputable def zxOa:Env:=mE [zYGa] Tryz.f193
noncomputable def zPaa (a0 a1:Int) (K:Int→Option R):Option R :=
 zcda (IntKind.u64.wrap (0-a0)) a1 fun r2 =>
 K r2
noncomputable def zqFa:CSpec:={ ins:=[(.val (.int .u64) .s),(.val (.int .i64) .s)],outs:=[((.int .u64),.s)],fn:=fun d K _=>zPaa d.1 d.2.1 (fun r0=>K (r0,()) ()) }
theorem zySa:Holds Tryz.prog 193 zqFa:=hw zxOa [(4,none)] (lp:=lp0) (code:=body Tryz.f193.body) zfaa Tryz.func193 l0 ⟨mixed,envTyOk.ty,envTyOk.eq⟩
noncomputable def zIHa:GE Tryz.prog:=⟨193,[],zqFa,zySa⟩
noncomputable def zLqa:Env:=mE [zWla] Tryz.f205
structure X_ref03_divide_3 where (f0 f1 f6 f7 f8:Int)
noncomputable def zela (k_exit_0:Int→Int→Option R) (rec:X_ref03_divide_3→Option R) (x:X_ref03_divide_3):Option R :=
 cond (decide (x.f8≥0))
 (cond (decide (0≤63))
 (zpca x.f0 x.f8 fun r4 =>
 let v5:=IntKind.u64.wrap ((IntKind.u64.wrap (x.f7*2))+r4)
 let v6:=IntKind.u64.wrap (x.f6*2)
 cond ((shrI .u64 x.f7 63)==1)
 (rec ⟨x.f0,x.f1,(IntKind.u64.wrap (v6+1)),(IntKind.u64.wrap (v5-x.f1)),(IntKind.i64.wrap (x.f8-1))⟩)
 (cond (decide (v5≥x.f1))
 (rec ⟨x.f0,x.f1,(IntKind.u64.wrap (v6+1)),(IntKind.u64.wrap (v5-x.f1)),(IntKind.i64.wrap (x.f8-1))⟩)
 (rec ⟨x.f0,x.f1,v6,v5,(IntKind.i64.wrap (x.f8-1))⟩))) none)
 (k_exit_0 x.f6 x.f7)
noncomputable def zRpa:LB:=⟨[.d 0 A16,.d 1 A16,.d 6 A16,.d 7 A16,.d 8 A0],[((.exit 0),[.d 6 A16,.d 7 A16])]⟩
noncomputable def zOza:LF X_ref03_divide_3:=fun _ K=>zela (exS zRpa 0 K)
noncomputable def zHBa:Loops:=fun z i R st K=>match z,i with
 |false,3=>lpS zRpa X_ref03_divide_3.mk zOza K st
 |_,_=>none
theorem zqJa:LOk zLqa zHBa inl0 3 Tryz.f205:=lok zRpa X_ref03_divide_3.mk (fun x=>(x.f0,x.f1,x.f6,x.f7,x.f8,())) zOza 3
theorem zEGa:zsaa zLqa zHBa inl0 (body Tryz.f205.body):=lsL (.cons zqJa .nil) .nil
noncomputable def zJda (a0 a1:Int) (K:Int→Int→Option R):Option R :=
 loopN (zela (fun w1 w2 =>
 K w1 w2)) zpaa ⟨a0,a1,0,0,63⟩
noncomputable def ziCa:CSpec:={ ins:=[(.val (.int .u64) .s),(.val (.int .u64) .s)],outs:=[((.int .u64),.s),((.int .u64),.s)],fn:=fun d K _=>zJda d.1 d.2.1 (fun r0 r1=>K (r0,r1,()) ()) }
theorem znQa:Holds Tryz.prog 205 ziCa:=hw zLqa [(4,none),(5,none)] zfaa Tryz.func205 zEGa ⟨mixed,envTyOk.ty,envTyOk.eq⟩
noncomputable def zEQa:GE Tryz.prog:=⟨205,[],ziCa,znQa⟩
noncomputable def zsJa:Nat→Option (List Nat)
 |0|1|3=>some [0,1,2,3]
 |2=>some []
 |4=>some [0,1,2,3,12]
 |5=>some [0,1]
 |6=>some [13,14]
 |7=>some [0,1,2,12]
 |8|10|12=>some [0,1,2,12,15,16]
 |9=>some [0,1,2,12,16]
 |11=>some [0,1,2,12,15]
 |13|14|15=>some [0,1,2,12,17,18]
 |16=>some [2,17,18]
 |17=>some [12,17,18]
 |18=>some [18]
 |19=>some [17,18]
 |_=>none
noncomputable def zoHa:Env:={ mE [zEQa,zIHa] Tryz.f194 with lv:=zsJa }
noncomputable def zida (a0 a1 a2:Int) (a3:Bool) (K:Int→Int→Int→Int→Option R):Option R :=
 cond (a1==0)
 (K 0 0 6 6)
 (let v3:=IntKind.u64.wrap (IntKind.i64.wrap (a2-1))
 cond (decide (0≤v3))
 (let v4:=shlI .u64 1 v3
 cond (!a3)
 (zJda a0 a1 fun r6 r7 =>
 K r6 r7 0 0)
 (cond (decide (a0≥v4))
 (zPaa a0 a2 fun r9 =>
 cond (decide (a1≥v4))
 (zPaa a1 a2 fun r11 =>
 zJda r9 r11 fun r12 r13 =>
 cond (decide (a0≥v4))
 (zPaa r13 a2 fun r15 =>
 cond (!((decide (a0≥v4))==(decide (a1≥v4))))
 (zPaa r12 a2 fun r19 =>
 K r19 r15 0 0)
 (cond (decide (r12≥v4))
 (K 0 r15 7 0)
 (K r12 r15 0 0)))
 (cond (!((decide (a0≥v4))==(decide (a1≥v4))))
 (zPaa r12 a2 fun r24 =>
 K r24 r13 0 0)
 (cond (decide (r12≥v4))
 (K 0 r13 7 0)
 (K r12 r13 0 0))))
 (zJda r9 a1 fun r26 r27 =>
 cond (decide (a0≥v4))
 (zPaa r27 a2 fun r29 =>
 cond (!((decide (a0≥v4))==(decide (a1≥v4))))
 (zPaa r26 a2 fun r33 =>
 K r33 r29 0 0)
 (cond (decide (r26≥v4))
 (K 0 r29 7 0)
 (K r26 r29 0 0)))
 (cond (!((decide (a0≥v4))==(decide (a1≥v4))))
 (zPaa r26 a2 fun r38 =>
 K r38 r27 0 0)
 (cond (decide (r26≥v4))
 (K 0 r27 7 0)
 (K r26 r27 0 0)))))
 (cond (decide (a1≥v4))
 (zPaa a1 a2 fun r41 =>
 zJda a0 r41 fun r42 r43 =>
 cond (decide (a0≥v4))
 (zPaa r43 a2 fun r45 =>
 cond (!((decide (a0≥v4))==(decide (a1≥v4))))
 (zPaa r42 a2 fun r49 =>
 K r49 r45 0 0)
 (cond (decide (r42≥v4))
 (K 0 r45 7 0)
 (K r42 r45 0 0)))
 (cond (!((decide (a0≥v4))==(decide (a1≥v4))))
 (zPaa r42 a2 fun r54 =>
 K r54 r43 0 0)
 (cond (decide (r42≥v4))
 (K 0 r43 7 0)
 (K r42 r43 0 0))))
 (zJda a0 a1 fun r56 r57 =>
 cond (decide (a0≥v4))
 (zPaa r57 a2 fun r59 =>
 cond (!((decide (a0≥v4))==(decide (a1≥v4))))
 (zPaa r56 a2 fun r63 =>
 K r63 r59 0 0)
 (cond (decide (r56≥v4))
 (K 0 r59 7 0)
 (K r56 r59 0 0)))
 (cond (!((decide (a0≥v4))==(decide (a1≥v4))))
 (zPaa r56 a2 fun r68 =>
 K r68 r57 0 0)
 (cond (decide (r56≥v4))
 (K 0 r57 7 0)
 (K r56 r57 0 0))))))) none)
noncomputable def zUwa:CSpec:={ ins:=[(.val (.int .u64) .s),(.val (.int .u64) .s),(.val (.int .i64) .s),(.val .bool .s)],outs:=[((.int .u64),.s),((.int .u64),.s),((.int .i64),.s),((.int .i64),.s)],fn:=fun d K _=>zida d.1 d.2.1 d.2.2.1 d.2.2.2.1 (fun r0 r1 r2 r3=>K (r0,r1,r2,r3,()) ()) }
theorem zcMa:Holds Tryz.prog 194 zUwa:=hw zoHa [(8,none),(9,none),(10,none),(11,none)] (lp:=lp0) (code:=body Tryz.f194.body) zfaa Tryz.func194 l0 ⟨mixed,envTyOk.ty,envTyOk.eq⟩
noncomputable def znMa:GE Tryz.prog:=⟨194,[],zUwa,zcMa⟩
noncomputable def ziwa:Env:=mE [zWla] Tryz.f195
structure X_ref03_each_3 where (f0 f1 f2 f7 f8:Int)
noncomputable def zlpa (k_exit_0:Int→Option R) (rec:X_ref03_each_3→Option R) (x:X_ref03_each_3):Option R :=
 cond (decide (x.f8≥0))
 (zpca x.f0 x.f8 fun r2 =>
 zpca x.f1 x.f8 fun r3 =>
 let v4:=IntKind.u64.wrap (r2+r3)
 let v5:=IntKind.u64.wrap (x.f7*2)
 let k1:Option R:=(let k2:Option R:=(cond (x.f2==2)
 (cond (v4==1)
 (rec ⟨x.f0,x.f1,x.f2,(IntKind.u64.wrap (v5+1)),(IntKind.i64.wrap (x.f8-1))⟩)
 (rec ⟨x.f0,x.f1,x.f2,v5,(IntKind.i64.wrap (x.f8-1))⟩))
 (rec ⟨x.f0,x.f1,x.f2,v5,(IntKind.i64.wrap (x.f8-1))⟩))
 cond (x.f2==1)
 (cond (decide (v4>0))
 (rec ⟨x.f0,x.f1,x.f2,(IntKind.u64.wrap (v5+1)),(IntKind.i64.wrap (x.f8-1))⟩)
 (k2))
 (k2))
 cond (x.f2==0)
 (cond (v4==2)
 (rec ⟨x.f0,x.f1,x.f2,(IntKind.u64.wrap (v5+1)),(IntKind.i64.wrap (x.f8-1))⟩)
 (k1))
 (k1))
 (k_exit_0 x.f7)
noncomputable def zSua:LB:=⟨[.d 0 A16,.d 1 A16,.d 2 A0,.d 7 A16,.d 8 A0],[((.exit 0),[.d 7 A16])]⟩
noncomputable def zOFa:LF X_ref03_each_3:=fun _ K=>zlpa (exS zSua 0 K)
noncomputable def zBHa:Loops:=fun z i R st K=>match z,i with
 |false,3=>lpS zSua X_ref03_each_3.mk zOFa K st
 |_,_=>none
theorem zJNa:LOk ziwa zBHa inl0 3 Tryz.f195:=lok zSua X_ref03_each_3.mk (fun x=>(x.f0,x.f1,x.f2,x.f7,x.f8,())) zOFa 3
theorem zALa:zsaa ziwa zBHa inl0 (body Tryz.f195.body):=lsL (.cons zJNa .nil) .nil
noncomputable def zhva (a0 a1 a2:Int) (K:Int→Option R):Option R :=
 loopN (zlpa (fun w1 =>
 K w1)) zpaa ⟨a0,a1,a2,0,63⟩
noncomputable def zZHa:CSpec:={ ins:=[(.val (.int .u64) .s),(.val (.int .u64) .s),(.val (.int .i64) .s)],outs:=[((.int .u64),.s)],fn:=fun d K _=>zhva d.1 d.2.1 d.2.2.1 (fun r0=>K (r0,()) ()) }
theorem zLUa:Holds Tryz.prog 195 zZHa:=hw ziwa [(6,none)] zfaa Tryz.func195 zALa ⟨mixed,envTyOk.ty,envTyOk.eq⟩
noncomputable def zjVa:GE Tryz.prog:=⟨195,[],zZHa,zLUa⟩
noncomputable def zrta:Env:=mE [zWla] Tryz.f196
structure X_ref03_moved_3 where (f0 f1 f2 f3 f9 f10:Int)
noncomputable def zxma (k_exit_0:Int→Option R) (rec:X_ref03_moved_3→Option R) (x:X_ref03_moved_3):Option R :=
 cond (decide (x.f10≥0))
 (let k1:Option R:=(cond (decide ((IntKind.i64.wrap (x.f10-x.f1))<0))
 (rec ⟨x.f0,x.f1,x.f2,x.f3,(IntKind.u64.wrap ((IntKind.u64.wrap (x.f9*2))+0)),(IntKind.i64.wrap (x.f10-1))⟩)
 (rec ⟨x.f0,x.f1,x.f2,x.f3,(IntKind.u64.wrap ((IntKind.u64.wrap (x.f9*2))+x.f3)),(IntKind.i64.wrap (x.f10-1))⟩))
 cond (decide ((IntKind.i64.wrap (x.f10-x.f1))≥0))
 (cond (decide ((IntKind.i64.wrap (x.f10-x.f1))<x.f2))
 (zpca x.f0 (IntKind.i64.wrap (x.f10-x.f1)) fun r7 =>
 cond (decide ((IntKind.i64.wrap (x.f10-x.f1))<0))
 (rec ⟨x.f0,x.f1,x.f2,x.f3,(IntKind.u64.wrap ((IntKind.u64.wrap (x.f9*2))+0)),(IntKind.i64.wrap (x.f10-1))⟩)
 (rec ⟨x.f0,x.f1,x.f2,x.f3,(IntKind.u64.wrap ((IntKind.u64.wrap (x.f9*2))+r7)),(IntKind.i64.wrap (x.f10-1))⟩))
 (k1))
 (k1))
 (k_exit_0 x.f9)
noncomputable def zOsa:LB:=⟨[.d 0 A16,.d 1 A0,.d 2 A0,.d 3 A16,.d 9 A16,.d 10 A0],[((.exit 0),[.d 9 A16])]⟩
noncomputable def zFCa:LF X_ref03_moved_3:=fun _ K=>zxma (exS zOsa 0 K)
noncomputable def zDEa:Loops:=fun z i R st K=>match z,i with
 |false,3=>lpS zOsa X_ref03_moved_3.mk zFCa K st
 |_,_=>none
theorem zjLa:LOk zrta zDEa inl0 3 Tryz.f196:=lok zOsa X_ref03_moved_3.mk (fun x=>(x.f0,x.f1,x.f2,x.f3,x.f9,x.f10,())) zFCa 3
theorem zzJa:zsaa zrta zDEa inl0 (body Tryz.f196.body):=lsL (.cons zjLa .nil) .nil
noncomputable def zlja (a0 a1 a2 a3:Int) (K:Int→Option R):Option R :=
 loopN (zxma (fun w2 =>
 K w2)) zpaa ⟨a0,a1,a2,a3,0,(IntKind.i64.wrap (a2-1))⟩
noncomputable def zpFa:CSpec:={ ins:=[(.val (.int .u64) .s),(.val (.int .i64) .s),(.val (.int .i64) .s),(.val (.int .u64) .s)],outs:=[((.int .u64),.s)],fn:=fun d K _=>zlja d.1 d.2.1 d.2.2.1 d.2.2.2.1 (fun r0=>K (r0,()) ()) }
theorem zxSa:Holds Tryz.prog 196 zpFa:=hw zrta [(8,none)] zfaa Tryz.func196 zzJa ⟨mixed,envTyOk.ty,envTyOk.eq⟩
noncomputable def zOSa:GE Tryz.prog:=⟨196,[],zpFa,zxSa⟩
noncomputable def zJqa:Env:=mE [zWla] Tryz.f197
structure X_ref03_turned_3 where (f0 f1 f2 f7 f8:Int)
noncomputable def zcla (k_exit_0:Int→Option R) (rec:X_ref03_turned_3→Option R) (x:X_ref03_turned_3):Option R :=
 cond (decide (x.f8≥0))
 (cond (x.f2 != 0)
 (cond (x.f2 != 0)
 (zpca x.f0 (Int.tmod (IntKind.i64.wrap ((IntKind.i64.wrap (x.f8-(Int.tmod x.f1 x.f2)))+x.f2)) x.f2) fun r7 =>
 rec ⟨x.f0,x.f1,x.f2,(IntKind.u64.wrap ((IntKind.u64.wrap (x.f7*2))+r7)),(IntKind.i64.wrap (x.f8-1))⟩) none) none)
 (k_exit_0 x.f7)
noncomputable def zPpa:LB:=⟨[.d 0 A16,.d 1 A0,.d 2 A0,.d 7 A16,.d 8 A0],[((.exit 0),[.d 7 A16])]⟩
noncomputable def zMza:LF X_ref03_turned_3:=fun _ K=>zcla (exS zPpa 0 K)
noncomputable def zFBa:Loops:=fun z i R st K=>match z,i with
 |false,3=>lpS zPpa X_ref03_turned_3.mk zMza K st
 |_,_=>none
theorem zoJa:LOk zJqa zFBa inl0 3 Tryz.f197:=lok zPpa X_ref03_turned_3.mk (fun x=>(x.f0,x.f1,x.f2,x.f7,x.f8,())) zMza 3
theorem zCGa:zsaa zJqa zFBa inl0 (body Tryz.f197.body):=lsL (.cons zoJa .nil) .nil
noncomputable def zdka (a0 a1 a2:Int) (K:Int→Option R):Option R :=
 loopN (zcla (fun w2 =>
 K w2)) zpaa ⟨a0,a1,a2,0,(IntKind.i64.wrap (a2-1))⟩
noncomputable def zfCa:CSpec:={ ins:=[(.val (.int .u64) .s),(.val (.int .i64) .s),(.val (.int .i64) .s)],outs:=[((.int .u64),.s)],fn:=fun d K _=>zdka d.1 d.2.1 d.2.2.1 (fun r0=>K (r0,()) ()) }
theorem zkQa:Holds Tryz.prog 197 zfCa:=hw zJqa [(6,none)] zfaa Tryz.func197 zCGa ⟨mixed,envTyOk.ty,envTyOk.eq⟩
noncomputable def zBQa:GE Tryz.prog:=⟨197,[],zfCa,zkQa⟩
end Go.Trm.G1
