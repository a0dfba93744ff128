/- Whatever bytes and number are given, SectCut returns true: of a module's bytes that are cut just those sections are told that are there whole; the bytes read as they did. No conditions. -/
import Derived.Test.YthidebepdpkgkaaTrmLawSectCut
import Derived.Test.YthidebepdpkgkaaTrmLSectCut
namespace Go.Proofs.Ythidebepdpkgkaa
/-- THE STATEMENT -/
theorem sectCut_holds : Rows.SectCutSaid := sectCut.over (fun b a _ h _ => Go.Trm.G1.sect_cut b a h)
#print axioms sectCut_holds
end Go.Proofs.Ythidebepdpkgkaa
