/-
  No cell of these rows narrows 'for every input' (looked for: loops, veiled, ifaces, maps, wideKeys, modest, calm, conditions, laid).
  DERIVED. THE GIVEN ROWS OF THIS SEAT. 5 by the template 'for every input the law returns true; each argument reads behind the call as it read before'; 0 by the template 'total and deterministic' (their statements: YtjlhhbbciaeggaaTotals.lean).
  GIVEN WITH THE SEED: the statements are not yours to turn. If you find one false, say at which input.
  Laid BY PROGRAM, IN A SANDBOX (cutbox-rows.mjs): the forced cells as the released guide's own fill.sh prints them over the translation fa22aa7efd3d9291… (all of the seat's roots in one cut). By AI agents, Wed Nov 11 2026. No macro, syntax, notation, axiom, sorry.
-/
import Derived.Test.YtjlhhbbciaeggaaChecked
import GoSem.Claim
import GoSem.ClaimJoined
import GoSem.ClaimMapViews
import Derived.JoinedTies
import Derived.KernelRfl
namespace Go.Proofs.Ytjlhhbbciaeggaa
/- THE CELL 'sum', in the pinned program and in every row, IS THE sha256 OF THE DUMP (.gsa) THAT YtjlhhbbciaeggaaProg.lean LOADS. Nothing in Lean hashes anything: it is a label: what it is worth is what the hold of that sum in a sandbox is worth. -/
noncomputable def Try.pinned : Pinned := { name := "ytjlhhbbciaeggaa", sum := "fa22aa7efd3d929135118e2e48cf0aae9fa9f464c1586512d4356ee4bb6dbb1f", checked := Try.checked }
namespace Rows
def none {H : Type} : Left H := { results := [], args := [] }

/-- 'pressworklaw20.RlePacks': WHATEVER THE INPUT: true; the input reads as it did. -/
def rlePacksSpec : ChangeSpec := { name := "rlePacks", fn := fun _ => fun
  | [d1, d2] => { results := [.lit (.bool true)], args := [d1, d2] }
  | _ => none }
def rlePacksRow : OpenClaim := { program := "ytjlhhbbciaeggaa", sum := "fa22aa7efd3d929135118e2e48cf0aae9fa9f464c1586512d4356ee4bb6dbb1f", func := "presswork/pressworklaw20.RlePacks", spec := "rlePacks", inPlace := ["internal/bytealg.MakeNoZero"], unfollowed := true, recurses := true, apart := false }
def RlePacksSaid : Prop := rlePacksRow.holds Try.pinned (OpenSpec.ofChange rlePacksSpec)

/-- ITS FALSE NEIGHBOUR: 'it returns false'. Refute it at one input. -/
def rlePacksWrong : ChangeSpec := { name := "rlePacks", fn := fun _ => fun
  | [d1, d2] => { results := [.lit (.bool false)], args := [d1, d2] }
  | _ => none }
def RlePacksWrongFalsely : Prop := rlePacksRow.holds Try.pinned (OpenSpec.ofChange rlePacksWrong)

/-- 'pressworklaw20.RleUnpacks': WHATEVER THE INPUT: true; the input reads as it did. -/
def rleUnpacksSpec : ChangeSpec := { name := "rleUnpacks", fn := fun _ => fun
  | [d1, d2] => { results := [.lit (.bool true)], args := [d1, d2] }
  | _ => none }
def rleUnpacksRow : OpenClaim := { program := "ytjlhhbbciaeggaa", sum := "fa22aa7efd3d929135118e2e48cf0aae9fa9f464c1586512d4356ee4bb6dbb1f", func := "presswork/pressworklaw20.RleUnpacks", spec := "rleUnpacks", inPlace := ["internal/bytealg.MakeNoZero"], unfollowed := true, recurses := true, apart := false }
def RleUnpacksSaid : Prop := rleUnpacksRow.holds Try.pinned (OpenSpec.ofChange rleUnpacksSpec)

/-- ITS FALSE NEIGHBOUR: 'it returns false'. Refute it at one input. -/
def rleUnpacksWrong : ChangeSpec := { name := "rleUnpacks", fn := fun _ => fun
  | [d1, d2] => { results := [.lit (.bool false)], args := [d1, d2] }
  | _ => none }
def RleUnpacksWrongFalsely : Prop := rleUnpacksRow.holds Try.pinned (OpenSpec.ofChange rleUnpacksWrong)

/-- 'pressworklaw20.RleBack': WHATEVER THE INPUT: true; the input reads as it did. -/
def rleBackSpec : ChangeSpec := { name := "rleBack", fn := fun _ => fun
  | [d1, d2] => { results := [.lit (.bool true)], args := [d1, d2] }
  | _ => none }
def rleBackRow : OpenClaim := { program := "ytjlhhbbciaeggaa", sum := "fa22aa7efd3d929135118e2e48cf0aae9fa9f464c1586512d4356ee4bb6dbb1f", func := "presswork/pressworklaw20.RleBack", spec := "rleBack", inPlace := ["internal/bytealg.MakeNoZero"], unfollowed := true, recurses := true, apart := false }
def RleBackSaid : Prop := rleBackRow.holds Try.pinned (OpenSpec.ofChange rleBackSpec)

/-- ITS FALSE NEIGHBOUR: 'it returns false'. Refute it at one input. -/
def rleBackWrong : ChangeSpec := { name := "rleBack", fn := fun _ => fun
  | [d1, d2] => { results := [.lit (.bool false)], args := [d1, d2] }
  | _ => none }
def RleBackWrongFalsely : Prop := rleBackRow.holds Try.pinned (OpenSpec.ofChange rleBackWrong)

/-- 'pressworklaw20.RleRuns': WHATEVER THE INPUT: true; the input reads as it did. -/
def rleRunsSpec : ChangeSpec := { name := "rleRuns", fn := fun _ => fun
  | [d1, d2] => { results := [.lit (.bool true)], args := [d1, d2] }
  | _ => none }
def rleRunsRow : OpenClaim := { program := "ytjlhhbbciaeggaa", sum := "fa22aa7efd3d929135118e2e48cf0aae9fa9f464c1586512d4356ee4bb6dbb1f", func := "presswork/pressworklaw20.RleRuns", spec := "rleRuns", inPlace := ["internal/bytealg.MakeNoZero"], unfollowed := true, recurses := true, apart := false }
def RleRunsSaid : Prop := rleRunsRow.holds Try.pinned (OpenSpec.ofChange rleRunsSpec)

/-- ITS FALSE NEIGHBOUR: 'it returns false'. Refute it at one input. -/
def rleRunsWrong : ChangeSpec := { name := "rleRuns", fn := fun _ => fun
  | [d1, d2] => { results := [.lit (.bool false)], args := [d1, d2] }
  | _ => none }
def RleRunsWrongFalsely : Prop := rleRunsRow.holds Try.pinned (OpenSpec.ofChange rleRunsWrong)

/-- 'pressworklaw20.RleKnown': WHATEVER THE INPUT: true; the input reads as it did. -/
def rleKnownSpec : ChangeSpec := { name := "rleKnown", fn := fun _ => fun
  | [] => { results := [.lit (.bool true)], args := [] }
  | _ => none }
def rleKnownRow : OpenClaim := { program := "ytjlhhbbciaeggaa", sum := "fa22aa7efd3d929135118e2e48cf0aae9fa9f464c1586512d4356ee4bb6dbb1f", func := "presswork/pressworklaw20.RleKnown", spec := "rleKnown", inPlace := ["internal/bytealg.MakeNoZero"], unfollowed := true, recurses := true, apart := false }
def RleKnownSaid : Prop := rleKnownRow.holds Try.pinned (OpenSpec.ofChange rleKnownSpec)

/-- ITS FALSE NEIGHBOUR: 'it returns false'. Refute it at one input. -/
def rleKnownWrong : ChangeSpec := { name := "rleKnown", fn := fun _ => fun
  | [] => { results := [.lit (.bool false)], args := [] }
  | _ => none }
def RleKnownWrongFalsely : Prop := rleKnownRow.holds Try.pinned (OpenSpec.ofChange rleKnownWrong)

/- THE SECOND FORM. 'bulk': how many values and letters a reading holds, each counted each time it is reached (what is shared counts as often as it is met; a slice's spare places count too). A statement '..UptoSaid' is the law's where the arguments, and the package variables that the reading takes, are together of bulk at most 1048576: NARROWER than '..Said'. Prove '..Said' where nothing that the law and all that it calls make is longer than what came in: it says more and counts as full. Else prove '..UptoSaid'. A law counts once. -/
mutual
def uptoBulk {H : Type} : DataW H → Nat
  | .lit (.string bytes) => bytes.length + 1
  | .lit _ => 1
  | .nil => 1
  | .ptr d => uptoBulk d + 1
  | .slice elems spare => uptoBulkAll elems + uptoBulkAll spare + 1
  | .agg parts => uptoBulkAll parts + 1
  | .iface _ d => uptoBulk d + 1
  | .map entries => uptoBulkEntries entries + 1
  | .held _ => 1
def uptoBulkAll {H : Type} : List (DataW H) → Nat
  | [] => 0
  | d :: r => uptoBulk d + uptoBulkAll r
def uptoBulkEntries {H : Type} : List (Lit × DataW H) → Nat
  | [] => 0
  | x :: r => uptoBulkEntry x + uptoBulkEntries r
def uptoBulkEntry {H : Type} : Lit × DataW H → Nat
  | (.string bytes, d) => bytes.length + uptoBulk d + 1
  | (_, d) => uptoBulk d + 1
 end
def uptoSmall : (H : Type) → List (DataW H) → Bool := fun _ ds => decide (uptoBulkAll ds ≤ 1048576)
def OpenSpec.upto (s : _root_.Go.ChangeSpec) : _root_.Go.OpenSpec := { _root_.Go.OpenSpec.ofChange s with cond := some uptoSmall }

/-- 'pressworklaw20.RlePacks', WHERE WHAT IT READS IS OF BULK AT MOST 1048576: true; the input reads as it did. -/
def rlePacksUptoRow : OpenClaim := { program := "ytjlhhbbciaeggaa", sum := "fa22aa7efd3d929135118e2e48cf0aae9fa9f464c1586512d4356ee4bb6dbb1f", func := "presswork/pressworklaw20.RlePacks", spec := "rlePacks", inPlace := ["internal/bytealg.MakeNoZero"], unfollowed := true, recurses := true, apart := false, narrowed := true }
def RlePacksUptoSaid : Prop := rlePacksUptoRow.holds Try.pinned (OpenSpec.upto rlePacksSpec)

/-- 'pressworklaw20.RleUnpacks', WHERE WHAT IT READS IS OF BULK AT MOST 1048576: true; the input reads as it did. -/
def rleUnpacksUptoRow : OpenClaim := { program := "ytjlhhbbciaeggaa", sum := "fa22aa7efd3d929135118e2e48cf0aae9fa9f464c1586512d4356ee4bb6dbb1f", func := "presswork/pressworklaw20.RleUnpacks", spec := "rleUnpacks", inPlace := ["internal/bytealg.MakeNoZero"], unfollowed := true, recurses := true, apart := false, narrowed := true }
def RleUnpacksUptoSaid : Prop := rleUnpacksUptoRow.holds Try.pinned (OpenSpec.upto rleUnpacksSpec)

/-- 'pressworklaw20.RleBack', WHERE WHAT IT READS IS OF BULK AT MOST 1048576: true; the input reads as it did. -/
def rleBackUptoRow : OpenClaim := { program := "ytjlhhbbciaeggaa", sum := "fa22aa7efd3d929135118e2e48cf0aae9fa9f464c1586512d4356ee4bb6dbb1f", func := "presswork/pressworklaw20.RleBack", spec := "rleBack", inPlace := ["internal/bytealg.MakeNoZero"], unfollowed := true, recurses := true, apart := false, narrowed := true }
def RleBackUptoSaid : Prop := rleBackUptoRow.holds Try.pinned (OpenSpec.upto rleBackSpec)

/-- 'pressworklaw20.RleRuns', WHERE WHAT IT READS IS OF BULK AT MOST 1048576: true; the input reads as it did. -/
def rleRunsUptoRow : OpenClaim := { program := "ytjlhhbbciaeggaa", sum := "fa22aa7efd3d929135118e2e48cf0aae9fa9f464c1586512d4356ee4bb6dbb1f", func := "presswork/pressworklaw20.RleRuns", spec := "rleRuns", inPlace := ["internal/bytealg.MakeNoZero"], unfollowed := true, recurses := true, apart := false, narrowed := true }
def RleRunsUptoSaid : Prop := rleRunsUptoRow.holds Try.pinned (OpenSpec.upto rleRunsSpec)

/-- 'pressworklaw20.RleKnown', WHERE WHAT IT READS IS OF BULK AT MOST 1048576: true; the input reads as it did. -/
def rleKnownUptoRow : OpenClaim := { program := "ytjlhhbbciaeggaa", sum := "fa22aa7efd3d929135118e2e48cf0aae9fa9f464c1586512d4356ee4bb6dbb1f", func := "presswork/pressworklaw20.RleKnown", spec := "rleKnown", inPlace := ["internal/bytealg.MakeNoZero"], unfollowed := true, recurses := true, apart := false, narrowed := true }
def RleKnownUptoSaid : Prop := rleKnownUptoRow.holds Try.pinned (OpenSpec.upto rleKnownSpec)

end Rows
end Go.Proofs.Ytjlhhbbciaeggaa
