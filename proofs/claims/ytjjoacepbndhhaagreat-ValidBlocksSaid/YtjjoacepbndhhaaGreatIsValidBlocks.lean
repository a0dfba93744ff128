/- ValidBlocks: a body of a module that is short and formed, which valid.Body takes, is taken within a block of its results, and within two, and with whatever stands behind a return that is taken left out; for every module and number, no condition. -/
import Derived.Test.YtjjoacepbndhhaaGreatTrmLawValidBlocks
import Derived.Test.YtjjoacepbndhhaaGreatTrmVFinB
namespace Go.Proofs.YtjjoacepbndhhaaGreat
/-- THE STATEMENT -/
theorem validBlocks_holds : Rows.ValidBlocksSaid := validBlocks.over (fun a0 a1 h _ => Go.Trm.V.pure_blocks a0 a1 h)
#print axioms validBlocks_holds
end Go.Proofs.YtjjoacepbndhhaaGreat
