/- Whatever text and number are given, UtfCut returns true: a name's bytes that are cut are too short, and its text that is cut within a character is none; the text reads as it did. No conditions. -/
import Derived.Test.YthidebepdpkgkabTrmLawUtfCut
import Derived.Test.YthidebepdpkgkabTrmLUtfCut
namespace Go.Proofs.Ythidebepdpkgkab
/-- THE STATEMENT -/
theorem utfCut_holds : Rows.UtfCutSaid := utfCut.over (fun s a h _ => Go.Trm.G1.utf_cut s a h)
#print axioms utfCut_holds
end Go.Proofs.Ythidebepdpkgkab
