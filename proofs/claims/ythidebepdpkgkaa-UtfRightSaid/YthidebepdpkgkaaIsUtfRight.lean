/- Whatever text is given, UtfRight returns true: the program and the document agree on which texts are characters; the text reads as it did. No conditions. -/
import Derived.Test.YthidebepdpkgkaaTrmLawUtfRight
import Derived.Test.YthidebepdpkgkaaTrmUtf3
namespace Go.Proofs.Ythidebepdpkgkaa
/-- THE STATEMENT -/
theorem utfRight_holds : Rows.UtfRightSaid := utfRight.over (fun a _ => Go.Trm.G1.utf_right a)
#print axioms utfRight_holds
end Go.Proofs.Ythidebepdpkgkaa
