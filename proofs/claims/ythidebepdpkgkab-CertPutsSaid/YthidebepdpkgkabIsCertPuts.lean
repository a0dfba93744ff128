/- CertPuts: any claims are put as the document says, or refused; for every list of claims, no condition. -/
import Derived.Test.YthidebepdpkgkabTrmLawCertPuts
import Derived.Test.YthidebepdpkgkabTrmLCert
namespace Go.Proofs.Ythidebepdpkgkab
/-- THE STATEMENT -/
theorem certPuts_holds : Rows.CertPutsSaid := certPuts.over (fun l h => Go.Trm.G1.cert_puts l h)
#print axioms certPuts_holds
end Go.Proofs.Ythidebepdpkgkab
