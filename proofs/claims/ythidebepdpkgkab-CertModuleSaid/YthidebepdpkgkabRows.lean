/-
  No cell of these rows narrows 'for every input' (looked for: loops, veiled, ifaces, maps, wideKeys, modest, calm, conditions, laid).
  DERIVED. THE GIVEN ROWS OF THIS SEAT. 7 by the template 'for every input the law returns true; each argument reads behind the call as it read before'; 0 by the template 'total and deterministic' (their statements: YthidebepdpkgkabTotals.lean).
  GIVEN WITH THE SEED: the statements are not yours to turn. If you find one false, say at which input.
  Laid BY PROGRAM, IN A SANDBOX (cutbox-rows.mjs): the forced cells as the released guide's own fill.sh prints them over the translation 673f36aa9bf5ec27… (all of the seat's roots in one cut). By AI agents, Wed Nov 11 2026. No macro, syntax, notation, axiom, sorry.
-/
import Derived.Test.YthidebepdpkgkabChecked
import GoSem.Claim
import GoSem.ClaimJoined
import GoSem.ClaimMapViews
import Derived.JoinedTies
import Derived.KernelRfl
namespace Go.Proofs.Ythidebepdpkgkab
/- THE CELL 'sum', in the pinned program and in every row, IS THE sha256 OF THE DUMP (.gsa) THAT YthidebepdpkgkabProg.lean LOADS. Nothing in Lean hashes anything: it is a label: what it is worth is what the hold of that sum in a sandbox is worth. -/
noncomputable def Try.pinned : Pinned := { name := "ythidebepdpkgkab", sum := "673f36aa9bf5ec2709d7cfe92306400ea49352b0ac25d35ea9a03add98828861", checked := Try.checked }
namespace Rows
def none {H : Type} : Left H := { results := [], args := [] }

/-- 'trammellaw02.UtfBack': WHATEVER THE INPUT: true; the input reads as it did. -/
def utfBackSpec : ChangeSpec := { name := "utfBack", fn := fun _ => fun
  | [d1, d2] => { results := [.lit (.bool true)], args := [d1, d2] }
  | _ => none }
def utfBackRow : OpenClaim := { program := "ythidebepdpkgkab", sum := "673f36aa9bf5ec2709d7cfe92306400ea49352b0ac25d35ea9a03add98828861", func := "trammel/trammellaw02.UtfBack", spec := "utfBack", apart := false }
def UtfBackSaid : Prop := utfBackRow.holds Try.pinned (OpenSpec.ofChange utfBackSpec)

/-- ITS FALSE NEIGHBOUR: 'it returns false'. Refute it at one input. -/
def utfBackWrong : ChangeSpec := { name := "utfBack", fn := fun _ => fun
  | [d1, d2] => { results := [.lit (.bool false)], args := [d1, d2] }
  | _ => none }
def UtfBackWrongFalsely : Prop := utfBackRow.holds Try.pinned (OpenSpec.ofChange utfBackWrong)

/-- 'trammellaw02.UtfCut': WHATEVER THE INPUT: true; the input reads as it did. -/
def utfCutSpec : ChangeSpec := { name := "utfCut", fn := fun _ => fun
  | [d1, d2] => { results := [.lit (.bool true)], args := [d1, d2] }
  | _ => none }
def utfCutRow : OpenClaim := { program := "ythidebepdpkgkab", sum := "673f36aa9bf5ec2709d7cfe92306400ea49352b0ac25d35ea9a03add98828861", func := "trammel/trammellaw02.UtfCut", spec := "utfCut", apart := false }
def UtfCutSaid : Prop := utfCutRow.holds Try.pinned (OpenSpec.ofChange utfCutSpec)

/-- ITS FALSE NEIGHBOUR: 'it returns false'. Refute it at one input. -/
def utfCutWrong : ChangeSpec := { name := "utfCut", fn := fun _ => fun
  | [d1, d2] => { results := [.lit (.bool false)], args := [d1, d2] }
  | _ => none }
def UtfCutWrongFalsely : Prop := utfCutRow.holds Try.pinned (OpenSpec.ofChange utfCutWrong)

/-- 'trammellaw21.CertPuts': WHATEVER THE INPUT: true; the input reads as it did. -/
def certPutsSpec : ChangeSpec := { name := "certPuts", fn := fun _ => fun
  | [d] => { results := [.lit (.bool true)], args := [d] }
  | _ => none }
def certPutsRow : OpenClaim := { program := "ythidebepdpkgkab", sum := "673f36aa9bf5ec2709d7cfe92306400ea49352b0ac25d35ea9a03add98828861", func := "trammel/trammellaw21.CertPuts", spec := "certPuts", unfollowed := true, recurses := true, apart := false }
def CertPutsSaid : Prop := certPutsRow.holds Try.pinned (OpenSpec.ofChange certPutsSpec)

/-- ITS FALSE NEIGHBOUR: 'it returns false'. Refute it at one input. -/
def certPutsWrong : ChangeSpec := { name := "certPuts", fn := fun _ => fun
  | [d] => { results := [.lit (.bool false)], args := [d] }
  | _ => none }
def CertPutsWrongFalsely : Prop := certPutsRow.holds Try.pinned (OpenSpec.ofChange certPutsWrong)

/-- 'trammellaw21.CertBack': WHATEVER THE INPUT: true; the input reads as it did. -/
def certBackSpec : ChangeSpec := { name := "certBack", fn := fun _ => fun
  | [d1, d2] => { results := [.lit (.bool true)], args := [d1, d2] }
  | _ => none }
def certBackRow : OpenClaim := { program := "ythidebepdpkgkab", sum := "673f36aa9bf5ec2709d7cfe92306400ea49352b0ac25d35ea9a03add98828861", func := "trammel/trammellaw21.CertBack", spec := "certBack", unfollowed := true, recurses := true, apart := false }
def CertBackSaid : Prop := certBackRow.holds Try.pinned (OpenSpec.ofChange certBackSpec)

/-- ITS FALSE NEIGHBOUR: 'it returns false'. Refute it at one input. -/
def certBackWrong : ChangeSpec := { name := "certBack", fn := fun _ => fun
  | [d1, d2] => { results := [.lit (.bool false)], args := [d1, d2] }
  | _ => none }
def CertBackWrongFalsely : Prop := certBackRow.holds Try.pinned (OpenSpec.ofChange certBackWrong)

/-- 'trammellaw21.CertCut': WHATEVER THE INPUT: true; the input reads as it did. -/
def certCutSpec : ChangeSpec := { name := "certCut", fn := fun _ => fun
  | [d1, d2] => { results := [.lit (.bool true)], args := [d1, d2] }
  | _ => none }
def certCutRow : OpenClaim := { program := "ythidebepdpkgkab", sum := "673f36aa9bf5ec2709d7cfe92306400ea49352b0ac25d35ea9a03add98828861", func := "trammel/trammellaw21.CertCut", spec := "certCut", unfollowed := true, recurses := true, apart := false }
def CertCutSaid : Prop := certCutRow.holds Try.pinned (OpenSpec.ofChange certCutSpec)

/-- ITS FALSE NEIGHBOUR: 'it returns false'. Refute it at one input. -/
def certCutWrong : ChangeSpec := { name := "certCut", fn := fun _ => fun
  | [d1, d2] => { results := [.lit (.bool false)], args := [d1, d2] }
  | _ => none }
def CertCutWrongFalsely : Prop := certCutRow.holds Try.pinned (OpenSpec.ofChange certCutWrong)

/-- 'trammellaw07.SectCustoms': WHATEVER THE INPUT: true; the input reads as it did. -/
def sectCustomsSpec : ChangeSpec := { name := "sectCustoms", fn := fun _ => fun
  | [d1, d2] => { results := [.lit (.bool true)], args := [d1, d2] }
  | _ => none }
def sectCustomsRow : OpenClaim := { program := "ythidebepdpkgkab", sum := "673f36aa9bf5ec2709d7cfe92306400ea49352b0ac25d35ea9a03add98828861", func := "trammel/trammellaw07.SectCustoms", spec := "sectCustoms", apart := false }
def SectCustomsSaid : Prop := sectCustomsRow.holds Try.pinned (OpenSpec.ofChange sectCustomsSpec)

/-- ITS FALSE NEIGHBOUR: 'it returns false'. Refute it at one input. -/
def sectCustomsWrong : ChangeSpec := { name := "sectCustoms", fn := fun _ => fun
  | [d1, d2] => { results := [.lit (.bool false)], args := [d1, d2] }
  | _ => none }
def SectCustomsWrongFalsely : Prop := sectCustomsRow.holds Try.pinned (OpenSpec.ofChange sectCustomsWrong)

/-- 'trammellaw21.CertModule': WHATEVER THE INPUT: true; the input reads as it did. -/
def certModuleSpec : ChangeSpec := { name := "certModule", fn := fun _ => fun
  | [d1, d2] => { results := [.lit (.bool true)], args := [d1, d2] }
  | _ => none }
def certModuleRow : OpenClaim := { program := "ythidebepdpkgkab", sum := "673f36aa9bf5ec2709d7cfe92306400ea49352b0ac25d35ea9a03add98828861", func := "trammel/trammellaw21.CertModule", spec := "certModule", unfollowed := true, recurses := true, apart := false }
def CertModuleSaid : Prop := certModuleRow.holds Try.pinned (OpenSpec.ofChange certModuleSpec)

/-- ITS FALSE NEIGHBOUR: 'it returns false'. Refute it at one input. -/
def certModuleWrong : ChangeSpec := { name := "certModule", fn := fun _ => fun
  | [d1, d2] => { results := [.lit (.bool false)], args := [d1, d2] }
  | _ => none }
def CertModuleWrongFalsely : Prop := certModuleRow.holds Try.pinned (OpenSpec.ofChange certModuleWrong)

/- THE SECOND FORM. 'bulk': how many values and letters a reading holds, each counted each time it is reached (what is shared counts as often as it is met; a slice's spare places count too). A statement '..UptoSaid' is the law's where the arguments, and the package variables that the reading takes, are together of bulk at most 1048576: NARROWER than '..Said'. Prove '..Said' where nothing that the law and all that it calls make is longer than what came in: it says more and counts as full. Else prove '..UptoSaid'. A law counts once. -/
mutual
def uptoBulk {H : Type} : DataW H → Nat
  | .lit (.string bytes) => bytes.length + 1
  | .lit _ => 1
  | .nil => 1
  | .ptr d => uptoBulk d + 1
  | .slice elems spare => uptoBulkAll elems + uptoBulkAll spare + 1
  | .agg parts => uptoBulkAll parts + 1
  | .iface _ d => uptoBulk d + 1
  | .map entries => uptoBulkEntries entries + 1
  | .held _ => 1
def uptoBulkAll {H : Type} : List (DataW H) → Nat
  | [] => 0
  | d :: r => uptoBulk d + uptoBulkAll r
def uptoBulkEntries {H : Type} : List (Lit × DataW H) → Nat
  | [] => 0
  | x :: r => uptoBulkEntry x + uptoBulkEntries r
def uptoBulkEntry {H : Type} : Lit × DataW H → Nat
  | (.string bytes, d) => bytes.length + uptoBulk d + 1
  | (_, d) => uptoBulk d + 1
 end
def uptoSmall : (H : Type) → List (DataW H) → Bool := fun _ ds => decide (uptoBulkAll ds ≤ 1048576)
def OpenSpec.upto (s : _root_.Go.ChangeSpec) : _root_.Go.OpenSpec := { _root_.Go.OpenSpec.ofChange s with cond := some uptoSmall }

/-- 'trammellaw02.UtfBack', WHERE WHAT IT READS IS OF BULK AT MOST 1048576: true; the input reads as it did. -/
def utfBackUptoRow : OpenClaim := { program := "ythidebepdpkgkab", sum := "673f36aa9bf5ec2709d7cfe92306400ea49352b0ac25d35ea9a03add98828861", func := "trammel/trammellaw02.UtfBack", spec := "utfBack", apart := false, narrowed := true }
def UtfBackUptoSaid : Prop := utfBackUptoRow.holds Try.pinned (OpenSpec.upto utfBackSpec)

/-- 'trammellaw02.UtfCut', WHERE WHAT IT READS IS OF BULK AT MOST 1048576: true; the input reads as it did. -/
def utfCutUptoRow : OpenClaim := { program := "ythidebepdpkgkab", sum := "673f36aa9bf5ec2709d7cfe92306400ea49352b0ac25d35ea9a03add98828861", func := "trammel/trammellaw02.UtfCut", spec := "utfCut", apart := false, narrowed := true }
def UtfCutUptoSaid : Prop := utfCutUptoRow.holds Try.pinned (OpenSpec.upto utfCutSpec)

/-- 'trammellaw21.CertPuts', WHERE WHAT IT READS IS OF BULK AT MOST 1048576: true; the input reads as it did. -/
def certPutsUptoRow : OpenClaim := { program := "ythidebepdpkgkab", sum := "673f36aa9bf5ec2709d7cfe92306400ea49352b0ac25d35ea9a03add98828861", func := "trammel/trammellaw21.CertPuts", spec := "certPuts", unfollowed := true, recurses := true, apart := false, narrowed := true }
def CertPutsUptoSaid : Prop := certPutsUptoRow.holds Try.pinned (OpenSpec.upto certPutsSpec)

/-- 'trammellaw21.CertBack', WHERE WHAT IT READS IS OF BULK AT MOST 1048576: true; the input reads as it did. -/
def certBackUptoRow : OpenClaim := { program := "ythidebepdpkgkab", sum := "673f36aa9bf5ec2709d7cfe92306400ea49352b0ac25d35ea9a03add98828861", func := "trammel/trammellaw21.CertBack", spec := "certBack", unfollowed := true, recurses := true, apart := false, narrowed := true }
def CertBackUptoSaid : Prop := certBackUptoRow.holds Try.pinned (OpenSpec.upto certBackSpec)

/-- 'trammellaw21.CertCut', WHERE WHAT IT READS IS OF BULK AT MOST 1048576: true; the input reads as it did. -/
def certCutUptoRow : OpenClaim := { program := "ythidebepdpkgkab", sum := "673f36aa9bf5ec2709d7cfe92306400ea49352b0ac25d35ea9a03add98828861", func := "trammel/trammellaw21.CertCut", spec := "certCut", unfollowed := true, recurses := true, apart := false, narrowed := true }
def CertCutUptoSaid : Prop := certCutUptoRow.holds Try.pinned (OpenSpec.upto certCutSpec)

/-- 'trammellaw07.SectCustoms', WHERE WHAT IT READS IS OF BULK AT MOST 1048576: true; the input reads as it did. -/
def sectCustomsUptoRow : OpenClaim := { program := "ythidebepdpkgkab", sum := "673f36aa9bf5ec2709d7cfe92306400ea49352b0ac25d35ea9a03add98828861", func := "trammel/trammellaw07.SectCustoms", spec := "sectCustoms", apart := false, narrowed := true }
def SectCustomsUptoSaid : Prop := sectCustomsUptoRow.holds Try.pinned (OpenSpec.upto sectCustomsSpec)

/-- 'trammellaw21.CertModule', WHERE WHAT IT READS IS OF BULK AT MOST 1048576: true; the input reads as it did. -/
def certModuleUptoRow : OpenClaim := { program := "ythidebepdpkgkab", sum := "673f36aa9bf5ec2709d7cfe92306400ea49352b0ac25d35ea9a03add98828861", func := "trammel/trammellaw21.CertModule", spec := "certModule", unfollowed := true, recurses := true, apart := false, narrowed := true }
def CertModuleUptoSaid : Prop := certModuleUptoRow.holds Try.pinned (OpenSpec.upto certModuleSpec)

end Rows
end Go.Proofs.Ythidebepdpkgkab
