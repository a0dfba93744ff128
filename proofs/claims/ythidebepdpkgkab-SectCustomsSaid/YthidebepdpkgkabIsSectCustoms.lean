/- Whatever bytes and whatever custom section are given, SectCustoms returns true: bytes are a custom section, or none, as the document says, and what was put is read; both read as they did. No conditions. -/
import Derived.Test.YthidebepdpkgkabTrmLawSectCustoms
import Derived.Test.YthidebepdpkgkabTrmLSectCustoms
namespace Go.Proofs.Ythidebepdpkgkab
/-- THE STATEMENT -/
theorem sectCustoms_holds : Rows.SectCustomsSaid := sectCustoms.over (fun b s x _ h _ _ h2 => Go.Trm.G1.sect_customs b s x h h2)
#print axioms sectCustoms_holds
end Go.Proofs.Ythidebepdpkgkab
