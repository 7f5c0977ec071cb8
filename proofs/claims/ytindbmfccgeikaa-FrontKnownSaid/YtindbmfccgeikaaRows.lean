/-
  No cell of these rows narrows 'for every input' (looked for: loops, veiled, ifaces, maps, wideKeys, modest, calm, conditions, laid).
  DERIVED. THE GIVEN ROWS OF THIS SEAT. 6 by the template 'for every input the law returns true; each argument reads behind the call as it read before'; 0 by the template 'total and deterministic' (their statements: YtindbmfccgeikaaTotals.lean).
  GIVEN WITH THE SEED: the statements are not yours to turn. If you find one false, say at which input.
  Laid BY PROGRAM, IN A SANDBOX (cutbox-rows.mjs): the forced cells as the released guide's own fill.sh prints them over the translation 4646fcb445f81375… (all of the seat's roots in one cut). By AI agents, Wed Nov 11 2026. No macro, syntax, notation, axiom, sorry.
-/
import Derived.Test.YtindbmfccgeikaaChecked
import GoSem.Claim
import GoSem.ClaimJoined
import GoSem.ClaimMapViews
import Derived.JoinedTies
import Derived.KernelRfl
namespace Go.Proofs.Ytindbmfccgeikaa
/- THE CELL 'sum', in the pinned program and in every row, IS THE sha256 OF THE DUMP (.gsa) THAT YtindbmfccgeikaaProg.lean LOADS. Nothing in Lean hashes anything: it is a label: what it is worth is what the hold of that sum in a sandbox is worth. -/
noncomputable def Try.pinned : Pinned := { name := "ytindbmfccgeikaa", sum := "4646fcb445f81375e0ecdb1e16877b9ee09fa66bbdf334dfbfa6fdd9a3a3e11b", checked := Try.checked }
namespace Rows
def none {H : Type} : Left H := { results := [], args := [] }

/-- 'pressworklaw22.FrontPuts': WHATEVER THE INPUT: true; the input reads as it did. -/
def frontPutsSpec : ChangeSpec := { name := "frontPuts", fn := fun _ => fun
  | [d] => { results := [.lit (.bool true)], args := [d] }
  | _ => none }
def frontPutsRow : OpenClaim := { program := "ytindbmfccgeikaa", sum := "4646fcb445f81375e0ecdb1e16877b9ee09fa66bbdf334dfbfa6fdd9a3a3e11b", func := "presswork/pressworklaw22.FrontPuts", spec := "frontPuts", inPlace := ["internal/bytealg.IndexByte", "internal/bytealg.MakeNoZero"], unfollowed := true, recurses := true, apart := false }
def FrontPutsSaid : Prop := frontPutsRow.holds Try.pinned (OpenSpec.ofChange frontPutsSpec)

/-- ITS FALSE NEIGHBOUR: 'it returns false'. Refute it at one input. -/
def frontPutsWrong : ChangeSpec := { name := "frontPuts", fn := fun _ => fun
  | [d] => { results := [.lit (.bool false)], args := [d] }
  | _ => none }
def FrontPutsWrongFalsely : Prop := frontPutsRow.holds Try.pinned (OpenSpec.ofChange frontPutsWrong)

/-- 'pressworklaw22.FrontGets': WHATEVER THE INPUT: true; the input reads as it did. -/
def frontGetsSpec : ChangeSpec := { name := "frontGets", fn := fun _ => fun
  | [d1, d2, d3] => { results := [.lit (.bool true)], args := [d1, d2, d3] }
  | _ => none }
def frontGetsRow : OpenClaim := { program := "ytindbmfccgeikaa", sum := "4646fcb445f81375e0ecdb1e16877b9ee09fa66bbdf334dfbfa6fdd9a3a3e11b", func := "presswork/pressworklaw22.FrontGets", spec := "frontGets", inPlace := ["internal/bytealg.IndexByte", "internal/bytealg.MakeNoZero"], unfollowed := true, recurses := true, apart := false }
def FrontGetsSaid : Prop := frontGetsRow.holds Try.pinned (OpenSpec.ofChange frontGetsSpec)

/-- ITS FALSE NEIGHBOUR: 'it returns false'. Refute it at one input. -/
def frontGetsWrong : ChangeSpec := { name := "frontGets", fn := fun _ => fun
  | [d1, d2, d3] => { results := [.lit (.bool false)], args := [d1, d2, d3] }
  | _ => none }
def FrontGetsWrongFalsely : Prop := frontGetsRow.holds Try.pinned (OpenSpec.ofChange frontGetsWrong)

/-- 'pressworklaw22.FrontBack': WHATEVER THE INPUT: true; the input reads as it did. -/
def frontBackSpec : ChangeSpec := { name := "frontBack", fn := fun _ => fun
  | [d1, d2] => { results := [.lit (.bool true)], args := [d1, d2] }
  | _ => none }
def frontBackRow : OpenClaim := { program := "ytindbmfccgeikaa", sum := "4646fcb445f81375e0ecdb1e16877b9ee09fa66bbdf334dfbfa6fdd9a3a3e11b", func := "presswork/pressworklaw22.FrontBack", spec := "frontBack", inPlace := ["internal/bytealg.IndexByte", "internal/bytealg.MakeNoZero"], unfollowed := true, recurses := true, apart := false }
def FrontBackSaid : Prop := frontBackRow.holds Try.pinned (OpenSpec.ofChange frontBackSpec)

/-- ITS FALSE NEIGHBOUR: 'it returns false'. Refute it at one input. -/
def frontBackWrong : ChangeSpec := { name := "frontBack", fn := fun _ => fun
  | [d1, d2] => { results := [.lit (.bool false)], args := [d1, d2] }
  | _ => none }
def FrontBackWrongFalsely : Prop := frontBackRow.holds Try.pinned (OpenSpec.ofChange frontBackWrong)

/-- 'pressworklaw22.FrontSame': WHATEVER THE INPUT: true; the input reads as it did. -/
def frontSameSpec : ChangeSpec := { name := "frontSame", fn := fun _ => fun
  | [d1, d2] => { results := [.lit (.bool true)], args := [d1, d2] }
  | _ => none }
def frontSameRow : OpenClaim := { program := "ytindbmfccgeikaa", sum := "4646fcb445f81375e0ecdb1e16877b9ee09fa66bbdf334dfbfa6fdd9a3a3e11b", func := "presswork/pressworklaw22.FrontSame", spec := "frontSame", inPlace := ["internal/bytealg.IndexByte", "internal/bytealg.MakeNoZero"], unfollowed := true, recurses := true, apart := false }
def FrontSameSaid : Prop := frontSameRow.holds Try.pinned (OpenSpec.ofChange frontSameSpec)

/-- ITS FALSE NEIGHBOUR: 'it returns false'. Refute it at one input. -/
def frontSameWrong : ChangeSpec := { name := "frontSame", fn := fun _ => fun
  | [d1, d2] => { results := [.lit (.bool false)], args := [d1, d2] }
  | _ => none }
def FrontSameWrongFalsely : Prop := frontSameRow.holds Try.pinned (OpenSpec.ofChange frontSameWrong)

/-- 'pressworklaw22.FrontRuns': WHATEVER THE INPUT: true; the input reads as it did. -/
def frontRunsSpec : ChangeSpec := { name := "frontRuns", fn := fun _ => fun
  | [d1, d2] => { results := [.lit (.bool true)], args := [d1, d2] }
  | _ => none }
def frontRunsRow : OpenClaim := { program := "ytindbmfccgeikaa", sum := "4646fcb445f81375e0ecdb1e16877b9ee09fa66bbdf334dfbfa6fdd9a3a3e11b", func := "presswork/pressworklaw22.FrontRuns", spec := "frontRuns", inPlace := ["internal/bytealg.IndexByte", "internal/bytealg.MakeNoZero"], unfollowed := true, recurses := true, apart := false }
def FrontRunsSaid : Prop := frontRunsRow.holds Try.pinned (OpenSpec.ofChange frontRunsSpec)

/-- ITS FALSE NEIGHBOUR: 'it returns false'. Refute it at one input. -/
def frontRunsWrong : ChangeSpec := { name := "frontRuns", fn := fun _ => fun
  | [d1, d2] => { results := [.lit (.bool false)], args := [d1, d2] }
  | _ => none }
def FrontRunsWrongFalsely : Prop := frontRunsRow.holds Try.pinned (OpenSpec.ofChange frontRunsWrong)

/-- 'pressworklaw22.FrontKnown': WHATEVER THE INPUT: true; the input reads as it did. -/
def frontKnownSpec : ChangeSpec := { name := "frontKnown", fn := fun _ => fun
  | [] => { results := [.lit (.bool true)], args := [] }
  | _ => none }
def frontKnownRow : OpenClaim := { program := "ytindbmfccgeikaa", sum := "4646fcb445f81375e0ecdb1e16877b9ee09fa66bbdf334dfbfa6fdd9a3a3e11b", func := "presswork/pressworklaw22.FrontKnown", spec := "frontKnown", inPlace := ["internal/bytealg.IndexByte", "internal/bytealg.MakeNoZero"], unfollowed := true, recurses := true, apart := false }
def FrontKnownSaid : Prop := frontKnownRow.holds Try.pinned (OpenSpec.ofChange frontKnownSpec)

/-- ITS FALSE NEIGHBOUR: 'it returns false'. Refute it at one input. -/
def frontKnownWrong : ChangeSpec := { name := "frontKnown", fn := fun _ => fun
  | [] => { results := [.lit (.bool false)], args := [] }
  | _ => none }
def FrontKnownWrongFalsely : Prop := frontKnownRow.holds Try.pinned (OpenSpec.ofChange frontKnownWrong)

/- THE SECOND FORM. 'bulk': how many values and letters a reading holds, each counted each time it is reached (what is shared counts as often as it is met; a slice's spare places count too). A statement '..UptoSaid' is the law's where the arguments, and the package variables that the reading takes, are together of bulk at most 1048576: NARROWER than '..Said'. Prove '..Said' where nothing that the law and all that it calls make is longer than what came in: it says more and counts as full. Else prove '..UptoSaid'. A law counts once. -/
mutual
def uptoBulk {H : Type} : DataW H → Nat
  | .lit (.string bytes) => bytes.length + 1
  | .lit _ => 1
  | .nil => 1
  | .ptr d => uptoBulk d + 1
  | .slice elems spare => uptoBulkAll elems + uptoBulkAll spare + 1
  | .agg parts => uptoBulkAll parts + 1
  | .iface _ d => uptoBulk d + 1
  | .map entries => uptoBulkEntries entries + 1
  | .held _ => 1
def uptoBulkAll {H : Type} : List (DataW H) → Nat
  | [] => 0
  | d :: r => uptoBulk d + uptoBulkAll r
def uptoBulkEntries {H : Type} : List (Lit × DataW H) → Nat
  | [] => 0
  | x :: r => uptoBulkEntry x + uptoBulkEntries r
def uptoBulkEntry {H : Type} : Lit × DataW H → Nat
  | (.string bytes, d) => bytes.length + uptoBulk d + 1
  | (_, d) => uptoBulk d + 1
 end
def uptoSmall : (H : Type) → List (DataW H) → Bool := fun _ ds => decide (uptoBulkAll ds ≤ 1048576)
def OpenSpec.upto (s : _root_.Go.ChangeSpec) : _root_.Go.OpenSpec := { _root_.Go.OpenSpec.ofChange s with cond := some uptoSmall }

/-- 'pressworklaw22.FrontPuts', WHERE WHAT IT READS IS OF BULK AT MOST 1048576: true; the input reads as it did. -/
def frontPutsUptoRow : OpenClaim := { program := "ytindbmfccgeikaa", sum := "4646fcb445f81375e0ecdb1e16877b9ee09fa66bbdf334dfbfa6fdd9a3a3e11b", func := "presswork/pressworklaw22.FrontPuts", spec := "frontPuts", inPlace := ["internal/bytealg.IndexByte", "internal/bytealg.MakeNoZero"], unfollowed := true, recurses := true, apart := false, narrowed := true }
def FrontPutsUptoSaid : Prop := frontPutsUptoRow.holds Try.pinned (OpenSpec.upto frontPutsSpec)

/-- 'pressworklaw22.FrontGets', WHERE WHAT IT READS IS OF BULK AT MOST 1048576: true; the input reads as it did. -/
def frontGetsUptoRow : OpenClaim := { program := "ytindbmfccgeikaa", sum := "4646fcb445f81375e0ecdb1e16877b9ee09fa66bbdf334dfbfa6fdd9a3a3e11b", func := "presswork/pressworklaw22.FrontGets", spec := "frontGets", inPlace := ["internal/bytealg.IndexByte", "internal/bytealg.MakeNoZero"], unfollowed := true, recurses := true, apart := false, narrowed := true }
def FrontGetsUptoSaid : Prop := frontGetsUptoRow.holds Try.pinned (OpenSpec.upto frontGetsSpec)

/-- 'pressworklaw22.FrontBack', WHERE WHAT IT READS IS OF BULK AT MOST 1048576: true; the input reads as it did. -/
def frontBackUptoRow : OpenClaim := { program := "ytindbmfccgeikaa", sum := "4646fcb445f81375e0ecdb1e16877b9ee09fa66bbdf334dfbfa6fdd9a3a3e11b", func := "presswork/pressworklaw22.FrontBack", spec := "frontBack", inPlace := ["internal/bytealg.IndexByte", "internal/bytealg.MakeNoZero"], unfollowed := true, recurses := true, apart := false, narrowed := true }
def FrontBackUptoSaid : Prop := frontBackUptoRow.holds Try.pinned (OpenSpec.upto frontBackSpec)

/-- 'pressworklaw22.FrontSame', WHERE WHAT IT READS IS OF BULK AT MOST 1048576: true; the input reads as it did. -/
def frontSameUptoRow : OpenClaim := { program := "ytindbmfccgeikaa", sum := "4646fcb445f81375e0ecdb1e16877b9ee09fa66bbdf334dfbfa6fdd9a3a3e11b", func := "presswork/pressworklaw22.FrontSame", spec := "frontSame", inPlace := ["internal/bytealg.IndexByte", "internal/bytealg.MakeNoZero"], unfollowed := true, recurses := true, apart := false, narrowed := true }
def FrontSameUptoSaid : Prop := frontSameUptoRow.holds Try.pinned (OpenSpec.upto frontSameSpec)

/-- 'pressworklaw22.FrontRuns', WHERE WHAT IT READS IS OF BULK AT MOST 1048576: true; the input reads as it did. -/
def frontRunsUptoRow : OpenClaim := { program := "ytindbmfccgeikaa", sum := "4646fcb445f81375e0ecdb1e16877b9ee09fa66bbdf334dfbfa6fdd9a3a3e11b", func := "presswork/pressworklaw22.FrontRuns", spec := "frontRuns", inPlace := ["internal/bytealg.IndexByte", "internal/bytealg.MakeNoZero"], unfollowed := true, recurses := true, apart := false, narrowed := true }
def FrontRunsUptoSaid : Prop := frontRunsUptoRow.holds Try.pinned (OpenSpec.upto frontRunsSpec)

/-- 'pressworklaw22.FrontKnown', WHERE WHAT IT READS IS OF BULK AT MOST 1048576: true; the input reads as it did. -/
def frontKnownUptoRow : OpenClaim := { program := "ytindbmfccgeikaa", sum := "4646fcb445f81375e0ecdb1e16877b9ee09fa66bbdf334dfbfa6fdd9a3a3e11b", func := "presswork/pressworklaw22.FrontKnown", spec := "frontKnown", inPlace := ["internal/bytealg.IndexByte", "internal/bytealg.MakeNoZero"], unfollowed := true, recurses := true, apart := false, narrowed := true }
def FrontKnownUptoSaid : Prop := frontKnownUptoRow.holds Try.pinned (OpenSpec.upto frontKnownSpec)

end Rows
end Go.Proofs.Ytindbmfccgeikaa
