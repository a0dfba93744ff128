/- ValidNops: a body of a module that is short and formed, which valid.Body takes, is taken with a nop more anywhere ahead of its end, and one that has an error has it still; for every module and numbers, no condition. -/
import Derived.Test.YtjjoacepbndhhaaGreatTrmLawValidNops
import Derived.Test.YtjjoacepbndhhaaGreatTrmVFin
namespace Go.Proofs.YtjjoacepbndhhaaGreat
/-- THE STATEMENT -/
theorem validNops_holds : Rows.ValidNopsSaid := validNops.over (fun a0 a1 a2 h _ _ => Go.Trm.V.pure_nops a0 a1 a2 h)
#print axioms validNops_holds
end Go.Proofs.YtjjoacepbndhhaaGreat
