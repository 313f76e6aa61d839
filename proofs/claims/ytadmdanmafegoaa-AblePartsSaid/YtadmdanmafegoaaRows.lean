/-
  No cell of these rows narrows 'for every input' (looked for: loops, veiled, ifaces, maps, wideKeys, modest, calm, conditions, laid).
  DERIVED. THE GIVEN ROWS OF THIS SEAT. 7 by the template 'for every input the law returns true; each argument reads behind the call as it read before'; 0 by the template 'total and deterministic' (their statements: YtadmdanmafegoaaTotals.lean).
  GIVEN WITH THE SEED: the statements are not yours to turn. If you find one false, say at which input.
  Laid BY PROGRAM, IN A SANDBOX (cutbox-rows.mjs): the forced cells as the released guide's own fill.sh prints them over the translation d8b60fa7592b05a1… (all of the seat's roots in one cut). By AI agents, Wed Nov 11 2026. No macro, syntax, notation, axiom, sorry.
-/
import Derived.Test.YtadmdanmafegoaaChecked
import GoSem.Claim
import GoSem.ClaimJoined
import GoSem.ClaimMapViews
import Derived.JoinedTies
import Derived.KernelRfl
namespace Go.Proofs.Ytadmdanmafegoaa
/- THE CELL 'sum', in the pinned program and in every row, IS THE sha256 OF THE DUMP (.gsa) THAT YtadmdanmafegoaaProg.lean LOADS. Nothing in Lean hashes anything: it is a label: what it is worth is what the hold of that sum in a sandbox is worth. -/
noncomputable def Try.pinned : Pinned := { name := "ytadmdanmafegoaa", sum := "d8b60fa7592b05a1c2aa61e2ac96791e392388cdd69af1cabcf94bd8760bcf22", checked := Try.checked }
namespace Rows
def none {H : Type} : Left H := { results := [], args := [] }

/-- 'posternlaw01.AbleTexts': WHATEVER THE INPUT: true; the input reads as it did. -/
def ableTextsSpec : ChangeSpec := { name := "ableTexts", fn := fun _ => fun
  | [d] => { results := [.lit (.bool true)], args := [d] }
  | _ => none }
def ableTextsRow : OpenClaim := { program := "ytadmdanmafegoaa", sum := "d8b60fa7592b05a1c2aa61e2ac96791e392388cdd69af1cabcf94bd8760bcf22", func := "postern/posternlaw01.AbleTexts", spec := "ableTexts", inPlace := ["internal/abi.NoEscape", "internal/bytealg.MakeNoZero"], unfollowed := true, recurses := true, apart := false }
def AbleTextsSaid : Prop := ableTextsRow.holds Try.pinned (OpenSpec.ofChange ableTextsSpec)

/-- ITS FALSE NEIGHBOUR: 'it returns false'. Refute it at one input. -/
def ableTextsWrong : ChangeSpec := { name := "ableTexts", fn := fun _ => fun
  | [d] => { results := [.lit (.bool false)], args := [d] }
  | _ => none }
def AbleTextsWrongFalsely : Prop := ableTextsRow.holds Try.pinned (OpenSpec.ofChange ableTextsWrong)

/-- 'posternlaw01.AbleNames': WHATEVER THE INPUT: true; the input reads as it did. -/
def ableNamesSpec : ChangeSpec := { name := "ableNames", fn := fun _ => fun
  | [] => { results := [.lit (.bool true)], args := [] }
  | _ => none }
def ableNamesRow : OpenClaim := { program := "ytadmdanmafegoaa", sum := "d8b60fa7592b05a1c2aa61e2ac96791e392388cdd69af1cabcf94bd8760bcf22", func := "postern/posternlaw01.AbleNames", spec := "ableNames", inPlace := ["internal/abi.NoEscape", "internal/bytealg.MakeNoZero"], unfollowed := true, recurses := true, apart := false }
def AbleNamesSaid : Prop := ableNamesRow.holds Try.pinned (OpenSpec.ofChange ableNamesSpec)

/-- ITS FALSE NEIGHBOUR: 'it returns false'. Refute it at one input. -/
def ableNamesWrong : ChangeSpec := { name := "ableNames", fn := fun _ => fun
  | [] => { results := [.lit (.bool false)], args := [] }
  | _ => none }
def AbleNamesWrongFalsely : Prop := ableNamesRow.holds Try.pinned (OpenSpec.ofChange ableNamesWrong)

/-- 'posternlaw01.AbleBack': WHATEVER THE INPUT: true; the input reads as it did. -/
def ableBackSpec : ChangeSpec := { name := "ableBack", fn := fun _ => fun
  | [d1, d2] => { results := [.lit (.bool true)], args := [d1, d2] }
  | _ => none }
def ableBackRow : OpenClaim := { program := "ytadmdanmafegoaa", sum := "d8b60fa7592b05a1c2aa61e2ac96791e392388cdd69af1cabcf94bd8760bcf22", func := "postern/posternlaw01.AbleBack", spec := "ableBack", inPlace := ["internal/abi.NoEscape", "internal/bytealg.MakeNoZero"], unfollowed := true, recurses := true, apart := false }
def AbleBackSaid : Prop := ableBackRow.holds Try.pinned (OpenSpec.ofChange ableBackSpec)

/-- ITS FALSE NEIGHBOUR: 'it returns false'. Refute it at one input. -/
def ableBackWrong : ChangeSpec := { name := "ableBack", fn := fun _ => fun
  | [d1, d2] => { results := [.lit (.bool false)], args := [d1, d2] }
  | _ => none }
def AbleBackWrongFalsely : Prop := ableBackRow.holds Try.pinned (OpenSpec.ofChange ableBackWrong)

/-- 'posternlaw01.AbleSets': WHATEVER THE INPUT: true; the input reads as it did. -/
def ableSetsSpec : ChangeSpec := { name := "ableSets", fn := fun _ => fun
  | [d1, d2, d3] => { results := [.lit (.bool true)], args := [d1, d2, d3] }
  | _ => none }
def ableSetsRow : OpenClaim := { program := "ytadmdanmafegoaa", sum := "d8b60fa7592b05a1c2aa61e2ac96791e392388cdd69af1cabcf94bd8760bcf22", func := "postern/posternlaw01.AbleSets", spec := "ableSets", inPlace := ["internal/abi.NoEscape", "internal/bytealg.MakeNoZero"], unfollowed := true, recurses := true, apart := false }
def AbleSetsSaid : Prop := ableSetsRow.holds Try.pinned (OpenSpec.ofChange ableSetsSpec)

/-- ITS FALSE NEIGHBOUR: 'it returns false'. Refute it at one input. -/
def ableSetsWrong : ChangeSpec := { name := "ableSets", fn := fun _ => fun
  | [d1, d2, d3] => { results := [.lit (.bool false)], args := [d1, d2, d3] }
  | _ => none }
def AbleSetsWrongFalsely : Prop := ableSetsRow.holds Try.pinned (OpenSpec.ofChange ableSetsWrong)

/-- 'posternlaw01.AbleWalks': WHATEVER THE INPUT: true; the input reads as it did. -/
def ableWalksSpec : ChangeSpec := { name := "ableWalks", fn := fun _ => fun
  | [d1, d2] => { results := [.lit (.bool true)], args := [d1, d2] }
  | _ => none }
def ableWalksRow : OpenClaim := { program := "ytadmdanmafegoaa", sum := "d8b60fa7592b05a1c2aa61e2ac96791e392388cdd69af1cabcf94bd8760bcf22", func := "postern/posternlaw01.AbleWalks", spec := "ableWalks", inPlace := ["internal/abi.NoEscape", "internal/bytealg.MakeNoZero"], unfollowed := true, recurses := true, apart := false }
def AbleWalksSaid : Prop := ableWalksRow.holds Try.pinned (OpenSpec.ofChange ableWalksSpec)

/-- ITS FALSE NEIGHBOUR: 'it returns false'. Refute it at one input. -/
def ableWalksWrong : ChangeSpec := { name := "ableWalks", fn := fun _ => fun
  | [d1, d2] => { results := [.lit (.bool false)], args := [d1, d2] }
  | _ => none }
def AbleWalksWrongFalsely : Prop := ableWalksRow.holds Try.pinned (OpenSpec.ofChange ableWalksWrong)

/-- 'posternlaw01.AbleLattice': WHATEVER THE INPUT: true; the input reads as it did. -/
def ableLatticeSpec : ChangeSpec := { name := "ableLattice", fn := fun _ => fun
  | [d1, d2, d3] => { results := [.lit (.bool true)], args := [d1, d2, d3] }
  | _ => none }
def ableLatticeRow : OpenClaim := { program := "ytadmdanmafegoaa", sum := "d8b60fa7592b05a1c2aa61e2ac96791e392388cdd69af1cabcf94bd8760bcf22", func := "postern/posternlaw01.AbleLattice", spec := "ableLattice", inPlace := ["internal/abi.NoEscape", "internal/bytealg.MakeNoZero"], unfollowed := true, recurses := true, apart := false }
def AbleLatticeSaid : Prop := ableLatticeRow.holds Try.pinned (OpenSpec.ofChange ableLatticeSpec)

/-- ITS FALSE NEIGHBOUR: 'it returns false'. Refute it at one input. -/
def ableLatticeWrong : ChangeSpec := { name := "ableLattice", fn := fun _ => fun
  | [d1, d2, d3] => { results := [.lit (.bool false)], args := [d1, d2, d3] }
  | _ => none }
def AbleLatticeWrongFalsely : Prop := ableLatticeRow.holds Try.pinned (OpenSpec.ofChange ableLatticeWrong)

/-- 'posternlaw01.AbleParts': WHATEVER THE INPUT: true; the input reads as it did. -/
def ablePartsSpec : ChangeSpec := { name := "ableParts", fn := fun _ => fun
  | [d1, d2] => { results := [.lit (.bool true)], args := [d1, d2] }
  | _ => none }
def ablePartsRow : OpenClaim := { program := "ytadmdanmafegoaa", sum := "d8b60fa7592b05a1c2aa61e2ac96791e392388cdd69af1cabcf94bd8760bcf22", func := "postern/posternlaw01.AbleParts", spec := "ableParts", inPlace := ["internal/abi.NoEscape", "internal/bytealg.MakeNoZero"], unfollowed := true, recurses := true, apart := false }
def AblePartsSaid : Prop := ablePartsRow.holds Try.pinned (OpenSpec.ofChange ablePartsSpec)

/-- ITS FALSE NEIGHBOUR: 'it returns false'. Refute it at one input. -/
def ablePartsWrong : ChangeSpec := { name := "ableParts", fn := fun _ => fun
  | [d1, d2] => { results := [.lit (.bool false)], args := [d1, d2] }
  | _ => none }
def AblePartsWrongFalsely : Prop := ablePartsRow.holds Try.pinned (OpenSpec.ofChange ablePartsWrong)

/- THE SECOND FORM. 'bulk': how many values and letters a reading holds, each counted each time it is reached (what is shared counts as often as it is met; a slice's spare places count too). A statement '..UptoSaid' is the law's where the arguments, and the package variables that the reading takes, are together of bulk at most 1048576: NARROWER than '..Said'. Prove '..Said' where nothing that the law and all that it calls make is longer than what came in: it says more and counts as full. Else prove '..UptoSaid'. A law counts once. -/
mutual
def uptoBulk {H : Type} : DataW H → Nat
  | .lit (.string bytes) => bytes.length + 1
  | .lit _ => 1
  | .nil => 1
  | .ptr d => uptoBulk d + 1
  | .slice elems spare => uptoBulkAll elems + uptoBulkAll spare + 1
  | .agg parts => uptoBulkAll parts + 1
  | .iface _ d => uptoBulk d + 1
  | .map entries => uptoBulkEntries entries + 1
  | .held _ => 1
def uptoBulkAll {H : Type} : List (DataW H) → Nat
  | [] => 0
  | d :: r => uptoBulk d + uptoBulkAll r
def uptoBulkEntries {H : Type} : List (Lit × DataW H) → Nat
  | [] => 0
  | x :: r => uptoBulkEntry x + uptoBulkEntries r
def uptoBulkEntry {H : Type} : Lit × DataW H → Nat
  | (.string bytes, d) => bytes.length + uptoBulk d + 1
  | (_, d) => uptoBulk d + 1
 end
def uptoSmall : (H : Type) → List (DataW H) → Bool := fun _ ds => decide (uptoBulkAll ds ≤ 1048576)
def OpenSpec.upto (s : _root_.Go.ChangeSpec) : _root_.Go.OpenSpec := { _root_.Go.OpenSpec.ofChange s with cond := some uptoSmall }

/-- 'posternlaw01.AbleTexts', WHERE WHAT IT READS IS OF BULK AT MOST 1048576: true; the input reads as it did. -/
def ableTextsUptoRow : OpenClaim := { program := "ytadmdanmafegoaa", sum := "d8b60fa7592b05a1c2aa61e2ac96791e392388cdd69af1cabcf94bd8760bcf22", func := "postern/posternlaw01.AbleTexts", spec := "ableTexts", inPlace := ["internal/abi.NoEscape", "internal/bytealg.MakeNoZero"], unfollowed := true, recurses := true, apart := false, narrowed := true }
def AbleTextsUptoSaid : Prop := ableTextsUptoRow.holds Try.pinned (OpenSpec.upto ableTextsSpec)

/-- 'posternlaw01.AbleNames', WHERE WHAT IT READS IS OF BULK AT MOST 1048576: true; the input reads as it did. -/
def ableNamesUptoRow : OpenClaim := { program := "ytadmdanmafegoaa", sum := "d8b60fa7592b05a1c2aa61e2ac96791e392388cdd69af1cabcf94bd8760bcf22", func := "postern/posternlaw01.AbleNames", spec := "ableNames", inPlace := ["internal/abi.NoEscape", "internal/bytealg.MakeNoZero"], unfollowed := true, recurses := true, apart := false, narrowed := true }
def AbleNamesUptoSaid : Prop := ableNamesUptoRow.holds Try.pinned (OpenSpec.upto ableNamesSpec)

/-- 'posternlaw01.AbleBack', WHERE WHAT IT READS IS OF BULK AT MOST 1048576: true; the input reads as it did. -/
def ableBackUptoRow : OpenClaim := { program := "ytadmdanmafegoaa", sum := "d8b60fa7592b05a1c2aa61e2ac96791e392388cdd69af1cabcf94bd8760bcf22", func := "postern/posternlaw01.AbleBack", spec := "ableBack", inPlace := ["internal/abi.NoEscape", "internal/bytealg.MakeNoZero"], unfollowed := true, recurses := true, apart := false, narrowed := true }
def AbleBackUptoSaid : Prop := ableBackUptoRow.holds Try.pinned (OpenSpec.upto ableBackSpec)

/-- 'posternlaw01.AbleSets', WHERE WHAT IT READS IS OF BULK AT MOST 1048576: true; the input reads as it did. -/
def ableSetsUptoRow : OpenClaim := { program := "ytadmdanmafegoaa", sum := "d8b60fa7592b05a1c2aa61e2ac96791e392388cdd69af1cabcf94bd8760bcf22", func := "postern/posternlaw01.AbleSets", spec := "ableSets", inPlace := ["internal/abi.NoEscape", "internal/bytealg.MakeNoZero"], unfollowed := true, recurses := true, apart := false, narrowed := true }
def AbleSetsUptoSaid : Prop := ableSetsUptoRow.holds Try.pinned (OpenSpec.upto ableSetsSpec)

/-- 'posternlaw01.AbleWalks', WHERE WHAT IT READS IS OF BULK AT MOST 1048576: true; the input reads as it did. -/
def ableWalksUptoRow : OpenClaim := { program := "ytadmdanmafegoaa", sum := "d8b60fa7592b05a1c2aa61e2ac96791e392388cdd69af1cabcf94bd8760bcf22", func := "postern/posternlaw01.AbleWalks", spec := "ableWalks", inPlace := ["internal/abi.NoEscape", "internal/bytealg.MakeNoZero"], unfollowed := true, recurses := true, apart := false, narrowed := true }
def AbleWalksUptoSaid : Prop := ableWalksUptoRow.holds Try.pinned (OpenSpec.upto ableWalksSpec)

/-- 'posternlaw01.AbleLattice', WHERE WHAT IT READS IS OF BULK AT MOST 1048576: true; the input reads as it did. -/
def ableLatticeUptoRow : OpenClaim := { program := "ytadmdanmafegoaa", sum := "d8b60fa7592b05a1c2aa61e2ac96791e392388cdd69af1cabcf94bd8760bcf22", func := "postern/posternlaw01.AbleLattice", spec := "ableLattice", inPlace := ["internal/abi.NoEscape", "internal/bytealg.MakeNoZero"], unfollowed := true, recurses := true, apart := false, narrowed := true }
def AbleLatticeUptoSaid : Prop := ableLatticeUptoRow.holds Try.pinned (OpenSpec.upto ableLatticeSpec)

/-- 'posternlaw01.AbleParts', WHERE WHAT IT READS IS OF BULK AT MOST 1048576: true; the input reads as it did. -/
def ablePartsUptoRow : OpenClaim := { program := "ytadmdanmafegoaa", sum := "d8b60fa7592b05a1c2aa61e2ac96791e392388cdd69af1cabcf94bd8760bcf22", func := "postern/posternlaw01.AbleParts", spec := "ableParts", inPlace := ["internal/abi.NoEscape", "internal/bytealg.MakeNoZero"], unfollowed := true, recurses := true, apart := false, narrowed := true }
def AblePartsUptoSaid : Prop := ablePartsUptoRow.holds Try.pinned (OpenSpec.upto ablePartsSpec)

end Rows
end Go.Proofs.Ytadmdanmafegoaa
