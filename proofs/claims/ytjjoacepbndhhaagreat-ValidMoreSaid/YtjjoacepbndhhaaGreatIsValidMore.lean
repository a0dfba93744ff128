/- ValidMore: what valid.Body takes of a module that is short and formed, it takes where there are more types, functions, globals and segments behind those that there are; for every module and number, no condition. -/
import Derived.Test.YtjjoacepbndhhaaGreatTrmLawValidMore
import Derived.Test.YtjjoacepbndhhaaGreatTrmVFin
namespace Go.Proofs.YtjjoacepbndhhaaGreat
/-- THE STATEMENT -/
theorem validMore_holds : Rows.ValidMoreSaid := validMore.over (fun a0 a1 h _ => Go.Trm.V.pure_more a0 a1 h)
#print axioms validMore_holds
end Go.Proofs.YtjjoacepbndhhaaGreat
