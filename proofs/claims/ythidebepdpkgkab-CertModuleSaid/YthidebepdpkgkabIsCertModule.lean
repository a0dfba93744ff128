/- CertModule: a module with claims says just these, and nothing else of it has changed; stripped, it says none; for every module and every list of claims, no condition. -/
import Derived.Test.YthidebepdpkgkabTrmLawCertModule
import Derived.Test.YthidebepdpkgkabTrmLCertMod
namespace Go.Proofs.Ythidebepdpkgkab
/-- THE STATEMENT -/
theorem certModule_holds : Rows.CertModuleSaid := certModule.over (fun m l h hl => Go.Trm.G1.cert_module m l h hl)
#print axioms certModule_holds
end Go.Proofs.Ythidebepdpkgkab
