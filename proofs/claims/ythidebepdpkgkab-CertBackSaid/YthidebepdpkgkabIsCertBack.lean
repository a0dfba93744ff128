/- CertBack: claims are read as they were put, and what is read is put as it was; for every list of claims and every bytes, no condition. -/
import Derived.Test.YthidebepdpkgkabTrmLawCertBack
import Derived.Test.YthidebepdpkgkabTrmLCert
namespace Go.Proofs.Ythidebepdpkgkab
/-- THE STATEMENT -/
theorem certBack_holds : Rows.CertBackSaid := certBack.over (fun l b h h0 h1 => Go.Trm.G1.cert_back l b h h0 h1)
#print axioms certBack_holds
end Go.Proofs.Ythidebepdpkgkab
