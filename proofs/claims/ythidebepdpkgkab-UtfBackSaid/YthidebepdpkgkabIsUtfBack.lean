/- Whatever text and bytes are given, UtfBack returns true: a name is read as it was put, with anything behind it; both read as they did. No conditions. -/
import Derived.Test.YthidebepdpkgkabTrmLawUtfBack
import Derived.Test.YthidebepdpkgkabTrmLUtfBack
namespace Go.Proofs.Ythidebepdpkgkab
/-- THE STATEMENT -/
theorem utfBack_holds : Rows.UtfBackSaid := utfBack.over (fun s m h _ h2 => Go.Trm.G1.utf_back s m h h2)
#print axioms utfBack_holds
end Go.Proofs.Ythidebepdpkgkab
