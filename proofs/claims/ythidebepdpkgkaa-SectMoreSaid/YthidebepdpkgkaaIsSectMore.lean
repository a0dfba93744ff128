/- A custom section more, anywhere among sections that are in order, leaves them in order and is told at its place: for every list of sections, every place and every bytes; the given statement itself, with no condition of our own. -/
import Derived.Test.YthidebepdpkgkaaTrmLawSectMore
import Derived.Test.YthidebepdpkgkaaTrmLSectMore
namespace Go.Proofs.Ythidebepdpkgkaa
/-- THE STATEMENT -/
theorem sectMore_holds : Rows.SectMoreSaid := sectMore.over (fun l k b h _ _ hb => Go.Trm.G1.sect_more l k b (Go.Trm.G1.bytes_of h) hb)
#print axioms sectMore_holds
end Go.Proofs.Ythidebepdpkgkaa
