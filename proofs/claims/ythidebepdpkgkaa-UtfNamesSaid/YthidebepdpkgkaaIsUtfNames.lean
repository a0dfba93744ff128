/- Whatever bytes and whatever text are given, UtfNames returns true: bytes are read as a name, and a text is put as one, as the document says; both read as they did. No conditions. -/
import Derived.Test.YthidebepdpkgkaaTrmLawUtfNames
import Derived.Test.YthidebepdpkgkaaTrmLeb4
namespace Go.Proofs.Ythidebepdpkgkaa
/-- THE STATEMENT -/
theorem utfNames_holds : Rows.UtfNamesSaid := utfNames.over (fun b s _ h _ => Go.Trm.G1.utf_names b s h)
#print axioms utfNames_holds
end Go.Proofs.Ythidebepdpkgkaa
