/- Lines that say nothing, and blanks more between words, change nothing of what script.Parse reads of a text; for every text and every choice of blanks, no condition beyond those of the row (package-level variables of the library start as its text lays them). -/
import Derived.Test.YtaaichbahlpjlaaDoorTrmSG
import Derived.Test.YtaaichbahlpjlaaDoorTrmSL
namespace Go.Proofs.YtaaichbahlpjlaaDoor
/-- THE STATEMENT -/
theorem scriptBlanks_holds : Rows.ScriptBlanksCardSaid := scriptBlanks.carded fun a b _ _ _ => Go.Trm.G1.scriptBlanks_pure a b
#print axioms scriptBlanks_holds
end Go.Proofs.YtaaichbahlpjlaaDoor
