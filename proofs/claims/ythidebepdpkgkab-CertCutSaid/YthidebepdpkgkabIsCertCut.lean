/- CertCut: bytes of claims, cut anywhere, are too short; for every list of claims and every place, no condition. -/
import Derived.Test.YthidebepdpkgkabTrmLawCertCut
import Derived.Test.YthidebepdpkgkabTrmLCert
namespace Go.Proofs.Ythidebepdpkgkab
/-- THE STATEMENT -/
theorem certCut_holds : Rows.CertCutSaid := certCut.over (fun l k h h1 => Go.Trm.G1.cert_cut l k h h1)
#print axioms certCut_holds
end Go.Proofs.Ythidebepdpkgkab
