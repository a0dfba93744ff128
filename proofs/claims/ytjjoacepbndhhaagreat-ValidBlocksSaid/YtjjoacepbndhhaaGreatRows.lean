/-
  No cell of these rows narrows 'for every input' (looked for: loops, veiled, ifaces, maps, wideKeys, modest, calm, conditions, laid).
  DERIVED. THE GIVEN ROWS OF THIS SEAT. 9 by the template 'for every input the law returns true; each argument reads behind the call as it read before'; 0 by the template 'total and deterministic' (their statements: YtjjoacepbndhhaaGreatTotals.lean).
  GIVEN WITH THE SEED: the statements are not yours to turn. If you find one false, say at which input.
  Laid BY PROGRAM, IN A SANDBOX (cutbox-rows.mjs): the forced cells as the released guide's own fill.sh prints them over the translation cec76fbafb942461… (all of the seat's roots in one cut). By AI agents, Wed Nov 11 2026. No macro, syntax, notation, axiom, sorry.
-/
import Derived.Test.YtjjoacepbndhhaaGreatChecked
import GoSem.Claim
import GoSem.ClaimJoined
import GoSem.ClaimMapViews
import Derived.JoinedTies
import Derived.KernelRfl
namespace Go.Proofs.YtjjoacepbndhhaaGreat
/- THE CELL 'sum', in the pinned program and in every row, IS THE sha256 OF THE DUMP (.gsa) THAT YtjjoacepbndhhaaGreatProg.lean LOADS. Nothing in Lean hashes anything: it is a label: what it is worth is what the hold of that sum in a sandbox is worth. -/
noncomputable def Tryz.pinned : Pinned := { name := "ytjjoacepbndhhaagreat", sum := "cec76fbafb94246194e30464a68bc955b879d2111ca11fcecd2a9fb82951c2e7", checked := Tryz.checked }
namespace Rows
def none {H : Type} : Left H := { results := [], args := [] }

/-- 'trammellaw10.ValidNops': WHATEVER THE INPUT: true; the input reads as it did. -/
def validNopsSpec : ChangeSpec := { name := "validNops", fn := fun _ => fun
  | [d1, d2, d3] => { results := [.lit (.bool true)], args := [d1, d2, d3] }
  | _ => none }
def validNopsRow : OpenClaim := { program := "ytjjoacepbndhhaagreat", sum := "cec76fbafb94246194e30464a68bc955b879d2111ca11fcecd2a9fb82951c2e7", func := "trammel/trammellaw10.ValidNops", spec := "validNops", unfollowed := true, recurses := true, apart := false }
def ValidNopsSaid : Prop := validNopsRow.holds Tryz.pinned (OpenSpec.ofChange validNopsSpec)

/-- ITS FALSE NEIGHBOUR: 'it returns false'. Refute it at one input. -/
def validNopsWrong : ChangeSpec := { name := "validNops", fn := fun _ => fun
  | [d1, d2, d3] => { results := [.lit (.bool false)], args := [d1, d2, d3] }
  | _ => none }
def ValidNopsWrongFalsely : Prop := validNopsRow.holds Tryz.pinned (OpenSpec.ofChange validNopsWrong)

/-- 'trammellaw10.ValidBlocks': WHATEVER THE INPUT: true; the input reads as it did. -/
def validBlocksSpec : ChangeSpec := { name := "validBlocks", fn := fun _ => fun
  | [d1, d2] => { results := [.lit (.bool true)], args := [d1, d2] }
  | _ => none }
def validBlocksRow : OpenClaim := { program := "ytjjoacepbndhhaagreat", sum := "cec76fbafb94246194e30464a68bc955b879d2111ca11fcecd2a9fb82951c2e7", func := "trammel/trammellaw10.ValidBlocks", spec := "validBlocks", unfollowed := true, recurses := true, apart := false }
def ValidBlocksSaid : Prop := validBlocksRow.holds Tryz.pinned (OpenSpec.ofChange validBlocksSpec)

/-- ITS FALSE NEIGHBOUR: 'it returns false'. Refute it at one input. -/
def validBlocksWrong : ChangeSpec := { name := "validBlocks", fn := fun _ => fun
  | [d1, d2] => { results := [.lit (.bool false)], args := [d1, d2] }
  | _ => none }
def ValidBlocksWrongFalsely : Prop := validBlocksRow.holds Tryz.pinned (OpenSpec.ofChange validBlocksWrong)

/-- 'trammellaw10.ValidMore': WHATEVER THE INPUT: true; the input reads as it did. -/
def validMoreSpec : ChangeSpec := { name := "validMore", fn := fun _ => fun
  | [d1, d2] => { results := [.lit (.bool true)], args := [d1, d2] }
  | _ => none }
def validMoreRow : OpenClaim := { program := "ytjjoacepbndhhaagreat", sum := "cec76fbafb94246194e30464a68bc955b879d2111ca11fcecd2a9fb82951c2e7", func := "trammel/trammellaw10.ValidMore", spec := "validMore", unfollowed := true, recurses := true, apart := false }
def ValidMoreSaid : Prop := validMoreRow.holds Tryz.pinned (OpenSpec.ofChange validMoreSpec)

/-- ITS FALSE NEIGHBOUR: 'it returns false'. Refute it at one input. -/
def validMoreWrong : ChangeSpec := { name := "validMore", fn := fun _ => fun
  | [d1, d2] => { results := [.lit (.bool false)], args := [d1, d2] }
  | _ => none }
def ValidMoreWrongFalsely : Prop := validMoreRow.holds Tryz.pinned (OpenSpec.ofChange validMoreWrong)

/-- 'trammellaw10.ValidRight': WHATEVER THE INPUT: true; the input reads as it did. -/
def validRightSpec : ChangeSpec := { name := "validRight", fn := fun _ => fun
  | [d1, d2, d3] => { results := [.lit (.bool true)], args := [d1, d2, d3] }
  | _ => none }
def validRightRow : OpenClaim := { program := "ytjjoacepbndhhaagreat", sum := "cec76fbafb94246194e30464a68bc955b879d2111ca11fcecd2a9fb82951c2e7", func := "trammel/trammellaw10.ValidRight", spec := "validRight", unfollowed := true, recurses := true, apart := false }
def ValidRightSaid : Prop := validRightRow.holds Tryz.pinned (OpenSpec.ofChange validRightSpec)

/-- ITS FALSE NEIGHBOUR: 'it returns false'. Refute it at one input. -/
def validRightWrong : ChangeSpec := { name := "validRight", fn := fun _ => fun
  | [d1, d2, d3] => { results := [.lit (.bool false)], args := [d1, d2, d3] }
  | _ => none }
def ValidRightWrongFalsely : Prop := validRightRow.holds Tryz.pinned (OpenSpec.ofChange validRightWrong)

/-- 'trammellaw12.LowerPlaces': WHATEVER THE INPUT: true; the input reads as it did. -/
def lowerPlacesSpec : ChangeSpec := { name := "lowerPlaces", fn := fun _ => fun
  | [d1, d2] => { results := [.lit (.bool true)], args := [d1, d2] }
  | _ => none }
def lowerPlacesRow : OpenClaim := { program := "ytjjoacepbndhhaagreat", sum := "cec76fbafb94246194e30464a68bc955b879d2111ca11fcecd2a9fb82951c2e7", func := "trammel/trammellaw12.LowerPlaces", spec := "lowerPlaces", unfollowed := true, recurses := true, apart := false }
def LowerPlacesSaid : Prop := lowerPlacesRow.holds Tryz.pinned (OpenSpec.ofChange lowerPlacesSpec)

/-- ITS FALSE NEIGHBOUR: 'it returns false'. Refute it at one input. -/
def lowerPlacesWrong : ChangeSpec := { name := "lowerPlaces", fn := fun _ => fun
  | [d1, d2] => { results := [.lit (.bool false)], args := [d1, d2] }
  | _ => none }
def LowerPlacesWrongFalsely : Prop := lowerPlacesRow.holds Tryz.pinned (OpenSpec.ofChange lowerPlacesWrong)

/-- 'trammellaw12.LowerBack': WHATEVER THE INPUT: true; the input reads as it did. -/
def lowerBackSpec : ChangeSpec := { name := "lowerBack", fn := fun _ => fun
  | [d1, d2] => { results := [.lit (.bool true)], args := [d1, d2] }
  | _ => none }
def lowerBackRow : OpenClaim := { program := "ytjjoacepbndhhaagreat", sum := "cec76fbafb94246194e30464a68bc955b879d2111ca11fcecd2a9fb82951c2e7", func := "trammel/trammellaw12.LowerBack", spec := "lowerBack", unfollowed := true, recurses := true, apart := false }
def LowerBackSaid : Prop := lowerBackRow.holds Tryz.pinned (OpenSpec.ofChange lowerBackSpec)

/-- ITS FALSE NEIGHBOUR: 'it returns false'. Refute it at one input. -/
def lowerBackWrong : ChangeSpec := { name := "lowerBack", fn := fun _ => fun
  | [d1, d2] => { results := [.lit (.bool false)], args := [d1, d2] }
  | _ => none }
def LowerBackWrongFalsely : Prop := lowerBackRow.holds Tryz.pinned (OpenSpec.ofChange lowerBackWrong)

/-- 'trammellaw12.LowerNops': WHATEVER THE INPUT: true; the input reads as it did. -/
def lowerNopsSpec : ChangeSpec := { name := "lowerNops", fn := fun _ => fun
  | [d1, d2, d3] => { results := [.lit (.bool true)], args := [d1, d2, d3] }
  | _ => none }
def lowerNopsRow : OpenClaim := { program := "ytjjoacepbndhhaagreat", sum := "cec76fbafb94246194e30464a68bc955b879d2111ca11fcecd2a9fb82951c2e7", func := "trammel/trammellaw12.LowerNops", spec := "lowerNops", unfollowed := true, recurses := true, apart := false }
def LowerNopsSaid : Prop := lowerNopsRow.holds Tryz.pinned (OpenSpec.ofChange lowerNopsSpec)

/-- ITS FALSE NEIGHBOUR: 'it returns false'. Refute it at one input. -/
def lowerNopsWrong : ChangeSpec := { name := "lowerNops", fn := fun _ => fun
  | [d1, d2, d3] => { results := [.lit (.bool false)], args := [d1, d2, d3] }
  | _ => none }
def LowerNopsWrongFalsely : Prop := lowerNopsRow.holds Tryz.pinned (OpenSpec.ofChange lowerNopsWrong)

/-- 'trammellaw12.LowerHeights': WHATEVER THE INPUT: true; the input reads as it did. -/
def lowerHeightsSpec : ChangeSpec := { name := "lowerHeights", fn := fun _ => fun
  | [d1, d2] => { results := [.lit (.bool true)], args := [d1, d2] }
  | _ => none }
def lowerHeightsRow : OpenClaim := { program := "ytjjoacepbndhhaagreat", sum := "cec76fbafb94246194e30464a68bc955b879d2111ca11fcecd2a9fb82951c2e7", func := "trammel/trammellaw12.LowerHeights", spec := "lowerHeights", unfollowed := true, recurses := true, apart := false }
def LowerHeightsSaid : Prop := lowerHeightsRow.holds Tryz.pinned (OpenSpec.ofChange lowerHeightsSpec)

/-- ITS FALSE NEIGHBOUR: 'it returns false'. Refute it at one input. -/
def lowerHeightsWrong : ChangeSpec := { name := "lowerHeights", fn := fun _ => fun
  | [d1, d2] => { results := [.lit (.bool false)], args := [d1, d2] }
  | _ => none }
def LowerHeightsWrongFalsely : Prop := lowerHeightsRow.holds Tryz.pinned (OpenSpec.ofChange lowerHeightsWrong)

/-- 'trammellaw12.LowerRight': WHATEVER THE INPUT: true; the input reads as it did. -/
def lowerRightSpec : ChangeSpec := { name := "lowerRight", fn := fun _ => fun
  | [d] => { results := [.lit (.bool true)], args := [d] }
  | _ => none }
def lowerRightRow : OpenClaim := { program := "ytjjoacepbndhhaagreat", sum := "cec76fbafb94246194e30464a68bc955b879d2111ca11fcecd2a9fb82951c2e7", func := "trammel/trammellaw12.LowerRight", spec := "lowerRight", unfollowed := true, recurses := true, apart := false }
def LowerRightSaid : Prop := lowerRightRow.holds Tryz.pinned (OpenSpec.ofChange lowerRightSpec)

/-- ITS FALSE NEIGHBOUR: 'it returns false'. Refute it at one input. -/
def lowerRightWrong : ChangeSpec := { name := "lowerRight", fn := fun _ => fun
  | [d] => { results := [.lit (.bool false)], args := [d] }
  | _ => none }
def LowerRightWrongFalsely : Prop := lowerRightRow.holds Tryz.pinned (OpenSpec.ofChange lowerRightWrong)

/- THE SECOND FORM. 'bulk': how many values and letters a reading holds, each counted each time it is reached (what is shared counts as often as it is met; a slice's spare places count too). A statement '..UptoSaid' is the law's where the arguments, and the package variables that the reading takes, are together of bulk at most 1048576: NARROWER than '..Said'. Prove '..Said' where nothing that the law and all that it calls make is longer than what came in: it says more and counts as full. Else prove '..UptoSaid'. A law counts once. -/
mutual
def uptoBulk {H : Type} : DataW H → Nat
  | .lit (.string bytes) => bytes.length + 1
  | .lit _ => 1
  | .nil => 1
  | .ptr d => uptoBulk d + 1
  | .slice elems spare => uptoBulkAll elems + uptoBulkAll spare + 1
  | .agg parts => uptoBulkAll parts + 1
  | .iface _ d => uptoBulk d + 1
  | .map entries => uptoBulkEntries entries + 1
  | .held _ => 1
def uptoBulkAll {H : Type} : List (DataW H) → Nat
  | [] => 0
  | d :: r => uptoBulk d + uptoBulkAll r
def uptoBulkEntries {H : Type} : List (Lit × DataW H) → Nat
  | [] => 0
  | x :: r => uptoBulkEntry x + uptoBulkEntries r
def uptoBulkEntry {H : Type} : Lit × DataW H → Nat
  | (.string bytes, d) => bytes.length + uptoBulk d + 1
  | (_, d) => uptoBulk d + 1
 end
def uptoSmall : (H : Type) → List (DataW H) → Bool := fun _ ds => decide (uptoBulkAll ds ≤ 1048576)
def OpenSpec.upto (s : _root_.Go.ChangeSpec) : _root_.Go.OpenSpec := { _root_.Go.OpenSpec.ofChange s with cond := some uptoSmall }

/-- 'trammellaw10.ValidNops', WHERE WHAT IT READS IS OF BULK AT MOST 1048576: true; the input reads as it did. -/
def validNopsUptoRow : OpenClaim := { program := "ytjjoacepbndhhaagreat", sum := "cec76fbafb94246194e30464a68bc955b879d2111ca11fcecd2a9fb82951c2e7", func := "trammel/trammellaw10.ValidNops", spec := "validNops", unfollowed := true, recurses := true, apart := false, narrowed := true }
def ValidNopsUptoSaid : Prop := validNopsUptoRow.holds Tryz.pinned (OpenSpec.upto validNopsSpec)

/-- 'trammellaw10.ValidBlocks', WHERE WHAT IT READS IS OF BULK AT MOST 1048576: true; the input reads as it did. -/
def validBlocksUptoRow : OpenClaim := { program := "ytjjoacepbndhhaagreat", sum := "cec76fbafb94246194e30464a68bc955b879d2111ca11fcecd2a9fb82951c2e7", func := "trammel/trammellaw10.ValidBlocks", spec := "validBlocks", unfollowed := true, recurses := true, apart := false, narrowed := true }
def ValidBlocksUptoSaid : Prop := validBlocksUptoRow.holds Tryz.pinned (OpenSpec.upto validBlocksSpec)

/-- 'trammellaw10.ValidMore', WHERE WHAT IT READS IS OF BULK AT MOST 1048576: true; the input reads as it did. -/
def validMoreUptoRow : OpenClaim := { program := "ytjjoacepbndhhaagreat", sum := "cec76fbafb94246194e30464a68bc955b879d2111ca11fcecd2a9fb82951c2e7", func := "trammel/trammellaw10.ValidMore", spec := "validMore", unfollowed := true, recurses := true, apart := false, narrowed := true }
def ValidMoreUptoSaid : Prop := validMoreUptoRow.holds Tryz.pinned (OpenSpec.upto validMoreSpec)

/-- 'trammellaw10.ValidRight', WHERE WHAT IT READS IS OF BULK AT MOST 1048576: true; the input reads as it did. -/
def validRightUptoRow : OpenClaim := { program := "ytjjoacepbndhhaagreat", sum := "cec76fbafb94246194e30464a68bc955b879d2111ca11fcecd2a9fb82951c2e7", func := "trammel/trammellaw10.ValidRight", spec := "validRight", unfollowed := true, recurses := true, apart := false, narrowed := true }
def ValidRightUptoSaid : Prop := validRightUptoRow.holds Tryz.pinned (OpenSpec.upto validRightSpec)

/-- 'trammellaw12.LowerPlaces', WHERE WHAT IT READS IS OF BULK AT MOST 1048576: true; the input reads as it did. -/
def lowerPlacesUptoRow : OpenClaim := { program := "ytjjoacepbndhhaagreat", sum := "cec76fbafb94246194e30464a68bc955b879d2111ca11fcecd2a9fb82951c2e7", func := "trammel/trammellaw12.LowerPlaces", spec := "lowerPlaces", unfollowed := true, recurses := true, apart := false, narrowed := true }
def LowerPlacesUptoSaid : Prop := lowerPlacesUptoRow.holds Tryz.pinned (OpenSpec.upto lowerPlacesSpec)

/-- 'trammellaw12.LowerBack', WHERE WHAT IT READS IS OF BULK AT MOST 1048576: true; the input reads as it did. -/
def lowerBackUptoRow : OpenClaim := { program := "ytjjoacepbndhhaagreat", sum := "cec76fbafb94246194e30464a68bc955b879d2111ca11fcecd2a9fb82951c2e7", func := "trammel/trammellaw12.LowerBack", spec := "lowerBack", unfollowed := true, recurses := true, apart := false, narrowed := true }
def LowerBackUptoSaid : Prop := lowerBackUptoRow.holds Tryz.pinned (OpenSpec.upto lowerBackSpec)

/-- 'trammellaw12.LowerNops', WHERE WHAT IT READS IS OF BULK AT MOST 1048576: true; the input reads as it did. -/
def lowerNopsUptoRow : OpenClaim := { program := "ytjjoacepbndhhaagreat", sum := "cec76fbafb94246194e30464a68bc955b879d2111ca11fcecd2a9fb82951c2e7", func := "trammel/trammellaw12.LowerNops", spec := "lowerNops", unfollowed := true, recurses := true, apart := false, narrowed := true }
def LowerNopsUptoSaid : Prop := lowerNopsUptoRow.holds Tryz.pinned (OpenSpec.upto lowerNopsSpec)

/-- 'trammellaw12.LowerHeights', WHERE WHAT IT READS IS OF BULK AT MOST 1048576: true; the input reads as it did. -/
def lowerHeightsUptoRow : OpenClaim := { program := "ytjjoacepbndhhaagreat", sum := "cec76fbafb94246194e30464a68bc955b879d2111ca11fcecd2a9fb82951c2e7", func := "trammel/trammellaw12.LowerHeights", spec := "lowerHeights", unfollowed := true, recurses := true, apart := false, narrowed := true }
def LowerHeightsUptoSaid : Prop := lowerHeightsUptoRow.holds Tryz.pinned (OpenSpec.upto lowerHeightsSpec)

/-- 'trammellaw12.LowerRight', WHERE WHAT IT READS IS OF BULK AT MOST 1048576: true; the input reads as it did. -/
def lowerRightUptoRow : OpenClaim := { program := "ytjjoacepbndhhaagreat", sum := "cec76fbafb94246194e30464a68bc955b879d2111ca11fcecd2a9fb82951c2e7", func := "trammel/trammellaw12.LowerRight", spec := "lowerRight", unfollowed := true, recurses := true, apart := false, narrowed := true }
def LowerRightUptoSaid : Prop := lowerRightUptoRow.holds Tryz.pinned (OpenSpec.upto lowerRightSpec)

end Rows
end Go.Proofs.YtjjoacepbndhhaaGreat
