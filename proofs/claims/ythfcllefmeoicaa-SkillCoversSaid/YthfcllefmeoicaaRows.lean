/-
  No cell of these rows narrows 'for every input' (looked for: loops, veiled, ifaces, maps, wideKeys, modest, calm, conditions, laid).
  DERIVED. THE GIVEN ROWS OF THIS SEAT. 8 by the template 'for every input the law returns true; each argument reads behind the call as it read before'; 0 by the template 'total and deterministic' (their statements: YthfcllefmeoicaaTotals.lean).
  GIVEN WITH THE SEED: the statements are not yours to turn. If you find one false, say at which input.
  Laid BY PROGRAM, IN A SANDBOX (cutbox-rows.mjs): the forced cells as the released guide's own fill.sh prints them over the translation dcd367943ca59cd4… (all of the seat's roots in one cut). By AI agents, Wed Nov 11 2026. No macro, syntax, notation, axiom, sorry.
-/
import Derived.Test.YthfcllefmeoicaaChecked
import GoSem.Claim
import GoSem.ClaimJoined
import GoSem.ClaimMapViews
import Derived.JoinedTies
import Derived.KernelRfl
namespace Go.Proofs.Ythfcllefmeoicaa
/- THE CELL 'sum', in the pinned program and in every row, IS THE sha256 OF THE DUMP (.gsa) THAT YthfcllefmeoicaaProg.lean LOADS. Nothing in Lean hashes anything: it is a label: what it is worth is what the hold of that sum in a sandbox is worth. -/
noncomputable def Try.pinned : Pinned := { name := "ythfcllefmeoicaa", sum := "dcd367943ca59cd4d3ed95d8994e31b9f5fd1a46375e31e5fc9a1adb3a406d12", checked := Try.checked }
namespace Rows
def none {H : Type} : Left H := { results := [], args := [] }

/-- 'garmentlaw47.SkillChecks': WHATEVER THE INPUT: true; the input reads as it did. -/
def skillChecksSpec : ChangeSpec := { name := "skillChecks", fn := fun _ => fun
  | [d1, d2] => { results := [.lit (.bool true)], args := [d1, d2] }
  | _ => none }
def skillChecksRow : OpenClaim := { program := "ythfcllefmeoicaa", sum := "dcd367943ca59cd4d3ed95d8994e31b9f5fd1a46375e31e5fc9a1adb3a406d12", func := "garment/garmentlaw47.SkillChecks", spec := "skillChecks", recurses := true, apart := false }
def SkillChecksSaid : Prop := skillChecksRow.holds Try.pinned (OpenSpec.ofChange skillChecksSpec)

/-- ITS FALSE NEIGHBOUR: 'it returns false'. Refute it at one input. -/
def skillChecksWrong : ChangeSpec := { name := "skillChecks", fn := fun _ => fun
  | [d1, d2] => { results := [.lit (.bool false)], args := [d1, d2] }
  | _ => none }
def SkillChecksWrongFalsely : Prop := skillChecksRow.holds Try.pinned (OpenSpec.ofChange skillChecksWrong)

/-- 'garmentlaw47.SkillMatches': WHATEVER THE INPUT: true; the input reads as it did. -/
def skillMatchesSpec : ChangeSpec := { name := "skillMatches", fn := fun _ => fun
  | [d1, d2] => { results := [.lit (.bool true)], args := [d1, d2] }
  | _ => none }
def skillMatchesRow : OpenClaim := { program := "ythfcllefmeoicaa", sum := "dcd367943ca59cd4d3ed95d8994e31b9f5fd1a46375e31e5fc9a1adb3a406d12", func := "garment/garmentlaw47.SkillMatches", spec := "skillMatches", recurses := true, apart := false }
def SkillMatchesSaid : Prop := skillMatchesRow.holds Try.pinned (OpenSpec.ofChange skillMatchesSpec)

/-- ITS FALSE NEIGHBOUR: 'it returns false'. Refute it at one input. -/
def skillMatchesWrong : ChangeSpec := { name := "skillMatches", fn := fun _ => fun
  | [d1, d2] => { results := [.lit (.bool false)], args := [d1, d2] }
  | _ => none }
def SkillMatchesWrongFalsely : Prop := skillMatchesRow.holds Try.pinned (OpenSpec.ofChange skillMatchesWrong)

/-- 'garmentlaw47.SkillCovers': WHATEVER THE INPUT: true; the input reads as it did. -/
def skillCoversSpec : ChangeSpec := { name := "skillCovers", fn := fun _ => fun
  | [d1, d2] => { results := [.lit (.bool true)], args := [d1, d2] }
  | _ => none }
def skillCoversRow : OpenClaim := { program := "ythfcllefmeoicaa", sum := "dcd367943ca59cd4d3ed95d8994e31b9f5fd1a46375e31e5fc9a1adb3a406d12", func := "garment/garmentlaw47.SkillCovers", spec := "skillCovers", recurses := true, apart := false }
def SkillCoversSaid : Prop := skillCoversRow.holds Try.pinned (OpenSpec.ofChange skillCoversSpec)

/-- ITS FALSE NEIGHBOUR: 'it returns false'. Refute it at one input. -/
def skillCoversWrong : ChangeSpec := { name := "skillCovers", fn := fun _ => fun
  | [d1, d2] => { results := [.lit (.bool false)], args := [d1, d2] }
  | _ => none }
def SkillCoversWrongFalsely : Prop := skillCoversRow.holds Try.pinned (OpenSpec.ofChange skillCoversWrong)

/-- 'garmentlaw47.SkillCover': WHATEVER THE INPUT: true; the input reads as it did. -/
def skillCoverSpec : ChangeSpec := { name := "skillCover", fn := fun _ => fun
  | [d1, d2] => { results := [.lit (.bool true)], args := [d1, d2] }
  | _ => none }
def skillCoverRow : OpenClaim := { program := "ythfcllefmeoicaa", sum := "dcd367943ca59cd4d3ed95d8994e31b9f5fd1a46375e31e5fc9a1adb3a406d12", func := "garment/garmentlaw47.SkillCover", spec := "skillCover", recurses := true, apart := false }
def SkillCoverSaid : Prop := skillCoverRow.holds Try.pinned (OpenSpec.ofChange skillCoverSpec)

/-- ITS FALSE NEIGHBOUR: 'it returns false'. Refute it at one input. -/
def skillCoverWrong : ChangeSpec := { name := "skillCover", fn := fun _ => fun
  | [d1, d2] => { results := [.lit (.bool false)], args := [d1, d2] }
  | _ => none }
def SkillCoverWrongFalsely : Prop := skillCoverRow.holds Try.pinned (OpenSpec.ofChange skillCoverWrong)

/-- 'garmentlaw47.SkillAble': WHATEVER THE INPUT: true; the input reads as it did. -/
def skillAbleSpec : ChangeSpec := { name := "skillAble", fn := fun _ => fun
  | [d1, d2] => { results := [.lit (.bool true)], args := [d1, d2] }
  | _ => none }
def skillAbleRow : OpenClaim := { program := "ythfcllefmeoicaa", sum := "dcd367943ca59cd4d3ed95d8994e31b9f5fd1a46375e31e5fc9a1adb3a406d12", func := "garment/garmentlaw47.SkillAble", spec := "skillAble", recurses := true, apart := false }
def SkillAbleSaid : Prop := skillAbleRow.holds Try.pinned (OpenSpec.ofChange skillAbleSpec)

/-- ITS FALSE NEIGHBOUR: 'it returns false'. Refute it at one input. -/
def skillAbleWrong : ChangeSpec := { name := "skillAble", fn := fun _ => fun
  | [d1, d2] => { results := [.lit (.bool false)], args := [d1, d2] }
  | _ => none }
def SkillAbleWrongFalsely : Prop := skillAbleRow.holds Try.pinned (OpenSpec.ofChange skillAbleWrong)

/-- 'garmentlaw47.SkillMore': WHATEVER THE INPUT: true; the input reads as it did. -/
def skillMoreSpec : ChangeSpec := { name := "skillMore", fn := fun _ => fun
  | [d1, d2, d3] => { results := [.lit (.bool true)], args := [d1, d2, d3] }
  | _ => none }
def skillMoreRow : OpenClaim := { program := "ythfcllefmeoicaa", sum := "dcd367943ca59cd4d3ed95d8994e31b9f5fd1a46375e31e5fc9a1adb3a406d12", func := "garment/garmentlaw47.SkillMore", spec := "skillMore", recurses := true, apart := false }
def SkillMoreSaid : Prop := skillMoreRow.holds Try.pinned (OpenSpec.ofChange skillMoreSpec)

/-- ITS FALSE NEIGHBOUR: 'it returns false'. Refute it at one input. -/
def skillMoreWrong : ChangeSpec := { name := "skillMore", fn := fun _ => fun
  | [d1, d2, d3] => { results := [.lit (.bool false)], args := [d1, d2, d3] }
  | _ => none }
def SkillMoreWrongFalsely : Prop := skillMoreRow.holds Try.pinned (OpenSpec.ofChange skillMoreWrong)

/-- 'garmentlaw47.SkillSpare': WHATEVER THE INPUT: true; the input reads as it did. -/
def skillSpareSpec : ChangeSpec := { name := "skillSpare", fn := fun _ => fun
  | [d1, d2] => { results := [.lit (.bool true)], args := [d1, d2] }
  | _ => none }
def skillSpareRow : OpenClaim := { program := "ythfcllefmeoicaa", sum := "dcd367943ca59cd4d3ed95d8994e31b9f5fd1a46375e31e5fc9a1adb3a406d12", func := "garment/garmentlaw47.SkillSpare", spec := "skillSpare", recurses := true, apart := false }
def SkillSpareSaid : Prop := skillSpareRow.holds Try.pinned (OpenSpec.ofChange skillSpareSpec)

/-- ITS FALSE NEIGHBOUR: 'it returns false'. Refute it at one input. -/
def skillSpareWrong : ChangeSpec := { name := "skillSpare", fn := fun _ => fun
  | [d1, d2] => { results := [.lit (.bool false)], args := [d1, d2] }
  | _ => none }
def SkillSpareWrongFalsely : Prop := skillSpareRow.holds Try.pinned (OpenSpec.ofChange skillSpareWrong)

/-- 'garmentlaw47.SkillNames': WHATEVER THE INPUT: true; the input reads as it did. -/
def skillNamesSpec : ChangeSpec := { name := "skillNames", fn := fun _ => fun
  | [d1, d2] => { results := [.lit (.bool true)], args := [d1, d2] }
  | _ => none }
def skillNamesRow : OpenClaim := { program := "ythfcllefmeoicaa", sum := "dcd367943ca59cd4d3ed95d8994e31b9f5fd1a46375e31e5fc9a1adb3a406d12", func := "garment/garmentlaw47.SkillNames", spec := "skillNames", recurses := true, apart := false }
def SkillNamesSaid : Prop := skillNamesRow.holds Try.pinned (OpenSpec.ofChange skillNamesSpec)

/-- ITS FALSE NEIGHBOUR: 'it returns false'. Refute it at one input. -/
def skillNamesWrong : ChangeSpec := { name := "skillNames", fn := fun _ => fun
  | [d1, d2] => { results := [.lit (.bool false)], args := [d1, d2] }
  | _ => none }
def SkillNamesWrongFalsely : Prop := skillNamesRow.holds Try.pinned (OpenSpec.ofChange skillNamesWrong)

/- THE SECOND FORM. 'bulk': how many values and letters a reading holds, each counted each time it is reached (what is shared counts as often as it is met; a slice's spare places count too). A statement '..UptoSaid' is the law's where the arguments, and the package variables that the reading takes, are together of bulk at most 1048576: NARROWER than '..Said'. Prove '..Said' where nothing that the law and all that it calls make is longer than what came in: it says more and counts as full. Else prove '..UptoSaid'. A law counts once. -/
mutual
def uptoBulk {H : Type} : DataW H → Nat
  | .lit (.string bytes) => bytes.length + 1
  | .lit _ => 1
  | .nil => 1
  | .ptr d => uptoBulk d + 1
  | .slice elems spare => uptoBulkAll elems + uptoBulkAll spare + 1
  | .agg parts => uptoBulkAll parts + 1
  | .iface _ d => uptoBulk d + 1
  | .map entries => uptoBulkEntries entries + 1
  | .held _ => 1
def uptoBulkAll {H : Type} : List (DataW H) → Nat
  | [] => 0
  | d :: r => uptoBulk d + uptoBulkAll r
def uptoBulkEntries {H : Type} : List (Lit × DataW H) → Nat
  | [] => 0
  | x :: r => uptoBulkEntry x + uptoBulkEntries r
def uptoBulkEntry {H : Type} : Lit × DataW H → Nat
  | (.string bytes, d) => bytes.length + uptoBulk d + 1
  | (_, d) => uptoBulk d + 1
 end
def uptoSmall : (H : Type) → List (DataW H) → Bool := fun _ ds => decide (uptoBulkAll ds ≤ 1048576)
def OpenSpec.upto (s : _root_.Go.ChangeSpec) : _root_.Go.OpenSpec := { _root_.Go.OpenSpec.ofChange s with cond := some uptoSmall }

/-- 'garmentlaw47.SkillChecks', WHERE WHAT IT READS IS OF BULK AT MOST 1048576: true; the input reads as it did. -/
def skillChecksUptoRow : OpenClaim := { program := "ythfcllefmeoicaa", sum := "dcd367943ca59cd4d3ed95d8994e31b9f5fd1a46375e31e5fc9a1adb3a406d12", func := "garment/garmentlaw47.SkillChecks", spec := "skillChecks", recurses := true, apart := false, narrowed := true }
def SkillChecksUptoSaid : Prop := skillChecksUptoRow.holds Try.pinned (OpenSpec.upto skillChecksSpec)

/-- 'garmentlaw47.SkillMatches', WHERE WHAT IT READS IS OF BULK AT MOST 1048576: true; the input reads as it did. -/
def skillMatchesUptoRow : OpenClaim := { program := "ythfcllefmeoicaa", sum := "dcd367943ca59cd4d3ed95d8994e31b9f5fd1a46375e31e5fc9a1adb3a406d12", func := "garment/garmentlaw47.SkillMatches", spec := "skillMatches", recurses := true, apart := false, narrowed := true }
def SkillMatchesUptoSaid : Prop := skillMatchesUptoRow.holds Try.pinned (OpenSpec.upto skillMatchesSpec)

/-- 'garmentlaw47.SkillCovers', WHERE WHAT IT READS IS OF BULK AT MOST 1048576: true; the input reads as it did. -/
def skillCoversUptoRow : OpenClaim := { program := "ythfcllefmeoicaa", sum := "dcd367943ca59cd4d3ed95d8994e31b9f5fd1a46375e31e5fc9a1adb3a406d12", func := "garment/garmentlaw47.SkillCovers", spec := "skillCovers", recurses := true, apart := false, narrowed := true }
def SkillCoversUptoSaid : Prop := skillCoversUptoRow.holds Try.pinned (OpenSpec.upto skillCoversSpec)

/-- 'garmentlaw47.SkillCover', WHERE WHAT IT READS IS OF BULK AT MOST 1048576: true; the input reads as it did. -/
def skillCoverUptoRow : OpenClaim := { program := "ythfcllefmeoicaa", sum := "dcd367943ca59cd4d3ed95d8994e31b9f5fd1a46375e31e5fc9a1adb3a406d12", func := "garment/garmentlaw47.SkillCover", spec := "skillCover", recurses := true, apart := false, narrowed := true }
def SkillCoverUptoSaid : Prop := skillCoverUptoRow.holds Try.pinned (OpenSpec.upto skillCoverSpec)

/-- 'garmentlaw47.SkillAble', WHERE WHAT IT READS IS OF BULK AT MOST 1048576: true; the input reads as it did. -/
def skillAbleUptoRow : OpenClaim := { program := "ythfcllefmeoicaa", sum := "dcd367943ca59cd4d3ed95d8994e31b9f5fd1a46375e31e5fc9a1adb3a406d12", func := "garment/garmentlaw47.SkillAble", spec := "skillAble", recurses := true, apart := false, narrowed := true }
def SkillAbleUptoSaid : Prop := skillAbleUptoRow.holds Try.pinned (OpenSpec.upto skillAbleSpec)

/-- 'garmentlaw47.SkillMore', WHERE WHAT IT READS IS OF BULK AT MOST 1048576: true; the input reads as it did. -/
def skillMoreUptoRow : OpenClaim := { program := "ythfcllefmeoicaa", sum := "dcd367943ca59cd4d3ed95d8994e31b9f5fd1a46375e31e5fc9a1adb3a406d12", func := "garment/garmentlaw47.SkillMore", spec := "skillMore", recurses := true, apart := false, narrowed := true }
def SkillMoreUptoSaid : Prop := skillMoreUptoRow.holds Try.pinned (OpenSpec.upto skillMoreSpec)

/-- 'garmentlaw47.SkillSpare', WHERE WHAT IT READS IS OF BULK AT MOST 1048576: true; the input reads as it did. -/
def skillSpareUptoRow : OpenClaim := { program := "ythfcllefmeoicaa", sum := "dcd367943ca59cd4d3ed95d8994e31b9f5fd1a46375e31e5fc9a1adb3a406d12", func := "garment/garmentlaw47.SkillSpare", spec := "skillSpare", recurses := true, apart := false, narrowed := true }
def SkillSpareUptoSaid : Prop := skillSpareUptoRow.holds Try.pinned (OpenSpec.upto skillSpareSpec)

/-- 'garmentlaw47.SkillNames', WHERE WHAT IT READS IS OF BULK AT MOST 1048576: true; the input reads as it did. -/
def skillNamesUptoRow : OpenClaim := { program := "ythfcllefmeoicaa", sum := "dcd367943ca59cd4d3ed95d8994e31b9f5fd1a46375e31e5fc9a1adb3a406d12", func := "garment/garmentlaw47.SkillNames", spec := "skillNames", recurses := true, apart := false, narrowed := true }
def SkillNamesUptoSaid : Prop := skillNamesUptoRow.holds Try.pinned (OpenSpec.upto skillNamesSpec)

end Rows
end Go.Proofs.Ythfcllefmeoicaa
