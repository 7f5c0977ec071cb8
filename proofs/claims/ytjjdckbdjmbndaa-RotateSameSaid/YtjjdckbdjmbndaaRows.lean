/-
  No cell of these rows narrows 'for every input' (looked for: loops, veiled, ifaces, maps, wideKeys, modest, calm, conditions, laid).
  DERIVED. THE GIVEN ROWS OF THIS SEAT. 6 by the template 'for every input the law returns true; each argument reads behind the call as it read before'; 0 by the template 'total and deterministic' (their statements: YtjjdckbdjmbndaaTotals.lean).
  GIVEN WITH THE SEED: the statements are not yours to turn. If you find one false, say at which input.
  Laid BY PROGRAM, IN A SANDBOX (cutbox-rows.mjs): the forced cells as the released guide's own fill.sh prints them over the translation 3ce5b8225458504b… (all of the seat's roots in one cut). By AI agents, Wed Nov 11 2026. No macro, syntax, notation, axiom, sorry.
-/
import Derived.Test.YtjjdckbdjmbndaaChecked
import GoSem.Claim
import GoSem.ClaimJoined
import GoSem.ClaimMapViews
import Derived.JoinedTies
import Derived.KernelRfl
namespace Go.Proofs.Ytjjdckbdjmbndaa
/- THE CELL 'sum', in the pinned program and in every row, IS THE sha256 OF THE DUMP (.gsa) THAT YtjjdckbdjmbndaaProg.lean LOADS. Nothing in Lean hashes anything: it is a label: what it is worth is what the hold of that sum in a sandbox is worth. -/
noncomputable def Try.pinned : Pinned := { name := "ytjjdckbdjmbndaa", sum := "3ce5b8225458504b7cb08d43c6a98c7b768cd0c7d9345160292a714e1967f38e", checked := Try.checked }
namespace Rows
def none {H : Type} : Left H := { results := [], args := [] }

/-- 'pressworklaw21.RotateTurns': WHATEVER THE INPUT: true; the input reads as it did. -/
def rotateTurnsSpec : ChangeSpec := { name := "rotateTurns", fn := fun _ => fun
  | [d] => { results := [.lit (.bool true)], args := [d] }
  | _ => none }
def rotateTurnsRow : OpenClaim := { program := "ytjjdckbdjmbndaa", sum := "3ce5b8225458504b7cb08d43c6a98c7b768cd0c7d9345160292a714e1967f38e", func := "presswork/pressworklaw21.RotateTurns", spec := "rotateTurns", unfollowed := true, recurses := true, apart := false }
def RotateTurnsSaid : Prop := rotateTurnsRow.holds Try.pinned (OpenSpec.ofChange rotateTurnsSpec)

/-- ITS FALSE NEIGHBOUR: 'it returns false'. Refute it at one input. -/
def rotateTurnsWrong : ChangeSpec := { name := "rotateTurns", fn := fun _ => fun
  | [d] => { results := [.lit (.bool false)], args := [d] }
  | _ => none }
def RotateTurnsWrongFalsely : Prop := rotateTurnsRow.holds Try.pinned (OpenSpec.ofChange rotateTurnsWrong)

/-- 'pressworklaw21.RotateBacks': WHATEVER THE INPUT: true; the input reads as it did. -/
def rotateBacksSpec : ChangeSpec := { name := "rotateBacks", fn := fun _ => fun
  | [d1, d2] => { results := [.lit (.bool true)], args := [d1, d2] }
  | _ => none }
def rotateBacksRow : OpenClaim := { program := "ytjjdckbdjmbndaa", sum := "3ce5b8225458504b7cb08d43c6a98c7b768cd0c7d9345160292a714e1967f38e", func := "presswork/pressworklaw21.RotateBacks", spec := "rotateBacks", unfollowed := true, recurses := true, apart := false }
def RotateBacksSaid : Prop := rotateBacksRow.holds Try.pinned (OpenSpec.ofChange rotateBacksSpec)

/-- ITS FALSE NEIGHBOUR: 'it returns false'. Refute it at one input. -/
def rotateBacksWrong : ChangeSpec := { name := "rotateBacks", fn := fun _ => fun
  | [d1, d2] => { results := [.lit (.bool false)], args := [d1, d2] }
  | _ => none }
def RotateBacksWrongFalsely : Prop := rotateBacksRow.holds Try.pinned (OpenSpec.ofChange rotateBacksWrong)

/-- 'pressworklaw21.RotateBack': WHATEVER THE INPUT: true; the input reads as it did. -/
def rotateBackSpec : ChangeSpec := { name := "rotateBack", fn := fun _ => fun
  | [d] => { results := [.lit (.bool true)], args := [d] }
  | _ => none }
def rotateBackRow : OpenClaim := { program := "ytjjdckbdjmbndaa", sum := "3ce5b8225458504b7cb08d43c6a98c7b768cd0c7d9345160292a714e1967f38e", func := "presswork/pressworklaw21.RotateBack", spec := "rotateBack", unfollowed := true, recurses := true, apart := false }
def RotateBackSaid : Prop := rotateBackRow.holds Try.pinned (OpenSpec.ofChange rotateBackSpec)

/-- ITS FALSE NEIGHBOUR: 'it returns false'. Refute it at one input. -/
def rotateBackWrong : ChangeSpec := { name := "rotateBack", fn := fun _ => fun
  | [d] => { results := [.lit (.bool false)], args := [d] }
  | _ => none }
def RotateBackWrongFalsely : Prop := rotateBackRow.holds Try.pinned (OpenSpec.ofChange rotateBackWrong)

/-- 'pressworklaw21.RotateSame': WHATEVER THE INPUT: true; the input reads as it did. -/
def rotateSameSpec : ChangeSpec := { name := "rotateSame", fn := fun _ => fun
  | [d1, d2] => { results := [.lit (.bool true)], args := [d1, d2] }
  | _ => none }
def rotateSameRow : OpenClaim := { program := "ytjjdckbdjmbndaa", sum := "3ce5b8225458504b7cb08d43c6a98c7b768cd0c7d9345160292a714e1967f38e", func := "presswork/pressworklaw21.RotateSame", spec := "rotateSame", unfollowed := true, recurses := true, apart := false }
def RotateSameSaid : Prop := rotateSameRow.holds Try.pinned (OpenSpec.ofChange rotateSameSpec)

/-- ITS FALSE NEIGHBOUR: 'it returns false'. Refute it at one input. -/
def rotateSameWrong : ChangeSpec := { name := "rotateSame", fn := fun _ => fun
  | [d1, d2] => { results := [.lit (.bool false)], args := [d1, d2] }
  | _ => none }
def RotateSameWrongFalsely : Prop := rotateSameRow.holds Try.pinned (OpenSpec.ofChange rotateSameWrong)

/-- 'pressworklaw21.RotateBytes': WHATEVER THE INPUT: true; the input reads as it did. -/
def rotateBytesSpec : ChangeSpec := { name := "rotateBytes", fn := fun _ => fun
  | [d] => { results := [.lit (.bool true)], args := [d] }
  | _ => none }
def rotateBytesRow : OpenClaim := { program := "ytjjdckbdjmbndaa", sum := "3ce5b8225458504b7cb08d43c6a98c7b768cd0c7d9345160292a714e1967f38e", func := "presswork/pressworklaw21.RotateBytes", spec := "rotateBytes", unfollowed := true, recurses := true, apart := false }
def RotateBytesSaid : Prop := rotateBytesRow.holds Try.pinned (OpenSpec.ofChange rotateBytesSpec)

/-- ITS FALSE NEIGHBOUR: 'it returns false'. Refute it at one input. -/
def rotateBytesWrong : ChangeSpec := { name := "rotateBytes", fn := fun _ => fun
  | [d] => { results := [.lit (.bool false)], args := [d] }
  | _ => none }
def RotateBytesWrongFalsely : Prop := rotateBytesRow.holds Try.pinned (OpenSpec.ofChange rotateBytesWrong)

/-- 'pressworklaw21.RotateKnown': WHATEVER THE INPUT: true; the input reads as it did. -/
def rotateKnownSpec : ChangeSpec := { name := "rotateKnown", fn := fun _ => fun
  | [] => { results := [.lit (.bool true)], args := [] }
  | _ => none }
def rotateKnownRow : OpenClaim := { program := "ytjjdckbdjmbndaa", sum := "3ce5b8225458504b7cb08d43c6a98c7b768cd0c7d9345160292a714e1967f38e", func := "presswork/pressworklaw21.RotateKnown", spec := "rotateKnown", unfollowed := true, recurses := true, apart := false }
def RotateKnownSaid : Prop := rotateKnownRow.holds Try.pinned (OpenSpec.ofChange rotateKnownSpec)

/-- ITS FALSE NEIGHBOUR: 'it returns false'. Refute it at one input. -/
def rotateKnownWrong : ChangeSpec := { name := "rotateKnown", fn := fun _ => fun
  | [] => { results := [.lit (.bool false)], args := [] }
  | _ => none }
def RotateKnownWrongFalsely : Prop := rotateKnownRow.holds Try.pinned (OpenSpec.ofChange rotateKnownWrong)

/- THE SECOND FORM. 'bulk': how many values and letters a reading holds, each counted each time it is reached (what is shared counts as often as it is met; a slice's spare places count too). A statement '..UptoSaid' is the law's where the arguments, and the package variables that the reading takes, are together of bulk at most 1048576: NARROWER than '..Said'. Prove '..Said' where nothing that the law and all that it calls make is longer than what came in: it says more and counts as full. Else prove '..UptoSaid'. A law counts once. -/
mutual
def uptoBulk {H : Type} : DataW H → Nat
  | .lit (.string bytes) => bytes.length + 1
  | .lit _ => 1
  | .nil => 1
  | .ptr d => uptoBulk d + 1
  | .slice elems spare => uptoBulkAll elems + uptoBulkAll spare + 1
  | .agg parts => uptoBulkAll parts + 1
  | .iface _ d => uptoBulk d + 1
  | .map entries => uptoBulkEntries entries + 1
  | .held _ => 1
def uptoBulkAll {H : Type} : List (DataW H) → Nat
  | [] => 0
  | d :: r => uptoBulk d + uptoBulkAll r
def uptoBulkEntries {H : Type} : List (Lit × DataW H) → Nat
  | [] => 0
  | x :: r => uptoBulkEntry x + uptoBulkEntries r
def uptoBulkEntry {H : Type} : Lit × DataW H → Nat
  | (.string bytes, d) => bytes.length + uptoBulk d + 1
  | (_, d) => uptoBulk d + 1
 end
def uptoSmall : (H : Type) → List (DataW H) → Bool := fun _ ds => decide (uptoBulkAll ds ≤ 1048576)
def OpenSpec.upto (s : _root_.Go.ChangeSpec) : _root_.Go.OpenSpec := { _root_.Go.OpenSpec.ofChange s with cond := some uptoSmall }

/-- 'pressworklaw21.RotateTurns', WHERE WHAT IT READS IS OF BULK AT MOST 1048576: true; the input reads as it did. -/
def rotateTurnsUptoRow : OpenClaim := { program := "ytjjdckbdjmbndaa", sum := "3ce5b8225458504b7cb08d43c6a98c7b768cd0c7d9345160292a714e1967f38e", func := "presswork/pressworklaw21.RotateTurns", spec := "rotateTurns", unfollowed := true, recurses := true, apart := false, narrowed := true }
def RotateTurnsUptoSaid : Prop := rotateTurnsUptoRow.holds Try.pinned (OpenSpec.upto rotateTurnsSpec)

/-- 'pressworklaw21.RotateBacks', WHERE WHAT IT READS IS OF BULK AT MOST 1048576: true; the input reads as it did. -/
def rotateBacksUptoRow : OpenClaim := { program := "ytjjdckbdjmbndaa", sum := "3ce5b8225458504b7cb08d43c6a98c7b768cd0c7d9345160292a714e1967f38e", func := "presswork/pressworklaw21.RotateBacks", spec := "rotateBacks", unfollowed := true, recurses := true, apart := false, narrowed := true }
def RotateBacksUptoSaid : Prop := rotateBacksUptoRow.holds Try.pinned (OpenSpec.upto rotateBacksSpec)

/-- 'pressworklaw21.RotateBack', WHERE WHAT IT READS IS OF BULK AT MOST 1048576: true; the input reads as it did. -/
def rotateBackUptoRow : OpenClaim := { program := "ytjjdckbdjmbndaa", sum := "3ce5b8225458504b7cb08d43c6a98c7b768cd0c7d9345160292a714e1967f38e", func := "presswork/pressworklaw21.RotateBack", spec := "rotateBack", unfollowed := true, recurses := true, apart := false, narrowed := true }
def RotateBackUptoSaid : Prop := rotateBackUptoRow.holds Try.pinned (OpenSpec.upto rotateBackSpec)

/-- 'pressworklaw21.RotateSame', WHERE WHAT IT READS IS OF BULK AT MOST 1048576: true; the input reads as it did. -/
def rotateSameUptoRow : OpenClaim := { program := "ytjjdckbdjmbndaa", sum := "3ce5b8225458504b7cb08d43c6a98c7b768cd0c7d9345160292a714e1967f38e", func := "presswork/pressworklaw21.RotateSame", spec := "rotateSame", unfollowed := true, recurses := true, apart := false, narrowed := true }
def RotateSameUptoSaid : Prop := rotateSameUptoRow.holds Try.pinned (OpenSpec.upto rotateSameSpec)

/-- 'pressworklaw21.RotateBytes', WHERE WHAT IT READS IS OF BULK AT MOST 1048576: true; the input reads as it did. -/
def rotateBytesUptoRow : OpenClaim := { program := "ytjjdckbdjmbndaa", sum := "3ce5b8225458504b7cb08d43c6a98c7b768cd0c7d9345160292a714e1967f38e", func := "presswork/pressworklaw21.RotateBytes", spec := "rotateBytes", unfollowed := true, recurses := true, apart := false, narrowed := true }
def RotateBytesUptoSaid : Prop := rotateBytesUptoRow.holds Try.pinned (OpenSpec.upto rotateBytesSpec)

/-- 'pressworklaw21.RotateKnown', WHERE WHAT IT READS IS OF BULK AT MOST 1048576: true; the input reads as it did. -/
def rotateKnownUptoRow : OpenClaim := { program := "ytjjdckbdjmbndaa", sum := "3ce5b8225458504b7cb08d43c6a98c7b768cd0c7d9345160292a714e1967f38e", func := "presswork/pressworklaw21.RotateKnown", spec := "rotateKnown", unfollowed := true, recurses := true, apart := false, narrowed := true }
def RotateKnownUptoSaid : Prop := rotateKnownUptoRow.holds Try.pinned (OpenSpec.upto rotateKnownSpec)

end Rows
end Go.Proofs.Ytjjdckbdjmbndaa
