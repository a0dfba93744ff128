/- Whatever bytes are given, SectSplits returns true: they are split into sections as the document says, up to the first error; the bytes read as they did. No conditions. -/
import Derived.Test.YthidebepdpkgkaaTrmLawSectSplits
import Derived.Test.YthidebepdpkgkaaTrmLSectSplits
namespace Go.Proofs.Ythidebepdpkgkaa
/-- THE STATEMENT -/
theorem sectSplits_holds : Rows.SectSplitsSaid := sectSplits.over (fun b _ h => Go.Trm.G1.sect_splits b h)
#print axioms sectSplits_holds
end Go.Proofs.Ythidebepdpkgkaa
