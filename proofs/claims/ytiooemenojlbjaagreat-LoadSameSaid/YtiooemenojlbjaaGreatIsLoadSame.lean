/- LoadSame: modules are held against each other as the document says; for all two modules, no condition. -/
import Derived.Test.YtiooemenojlbjaaGreatTrmLawLoadSame
import Derived.Test.YtiooemenojlbjaaGreatTrmLLoadSame
namespace Go.Proofs.YtiooemenojlbjaaGreat
/-- THE STATEMENT -/
theorem loadSame_holds : Rows.LoadSameSaid := loadSame.over (fun a b ha hb => Go.Trm.G1.load_same a b ha hb)
#print axioms loadSame_holds
end Go.Proofs.YtiooemenojlbjaaGreat
