/- SectJoins: any sections are joined as the document says, or refused; for every list of sections, no condition. -/
import Derived.Test.YthidebepdpkgkaaTrmLawSectJoins
import Derived.Test.YthidebepdpkgkaaTrmLSectJoins
namespace Go.Proofs.Ythidebepdpkgkaa
/-- THE STATEMENT -/
theorem sectJoins_holds : Rows.SectJoinsSaid := sectJoins.over (fun l h => Go.Trm.G1.sect_joins l (Go.Trm.G1.bytes_ofJ h))
#print axioms sectJoins_holds
end Go.Proofs.Ythidebepdpkgkaa
