/- Any text is read by script.Parse as the document says, or has its error, in its line; for every text, no condition beyond those of the row (package-level variables of the library start as its text lays them). -/
import Derived.Test.YtaaichbahlpjlaaDoorTrmSG
import Derived.Test.YtaaichbahlpjlaaDoorTrmSK
namespace Go.Proofs.YtaaichbahlpjlaaDoor
/-- THE STATEMENT -/
theorem scriptReads_holds : Rows.ScriptReadsCardSaid := scriptReads.carded fun a h => Go.Trm.G1.scriptReads_pure a h
#print axioms scriptReads_holds
end Go.Proofs.YtaaichbahlpjlaaDoor
