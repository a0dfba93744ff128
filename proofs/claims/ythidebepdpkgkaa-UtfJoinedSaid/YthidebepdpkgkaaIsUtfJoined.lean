/- Whatever two texts are given, UtfJoined returns true: two texts of characters are characters together, and a text that is cut is both parts' or none; the texts read as they did. No conditions. -/
import Derived.Test.YthidebepdpkgkaaTrmLawUtfJoined
import Derived.Test.YthidebepdpkgkaaTrmUtf4
namespace Go.Proofs.Ythidebepdpkgkaa
/-- THE STATEMENT -/
theorem utfJoined_holds : Rows.UtfJoinedSaid := utfJoined.over (fun a b _ _ => Go.Trm.G1.utf_joined a b)
#print axioms utfJoined_holds
end Go.Proofs.Ythidebepdpkgkaa
