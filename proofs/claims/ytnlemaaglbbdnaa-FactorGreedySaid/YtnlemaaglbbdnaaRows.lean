/-
  No cell of these rows narrows 'for every input' (looked for: loops, veiled, ifaces, maps, wideKeys, modest, calm, conditions, laid).
  DERIVED. THE GIVEN ROWS OF THIS SEAT. 5 by the template 'for every input the law returns true; each argument reads behind the call as it read before'; 0 by the template 'total and deterministic' (their statements: YtnlemaaglbbdnaaTotals.lean).
  GIVEN WITH THE SEED: the statements are not yours to turn. If you find one false, say at which input.
  Laid BY PROGRAM, IN A SANDBOX (cutbox-rows.mjs): the forced cells as the released guide's own fill.sh prints them over the translation 20b93ac9f75b1088… (all of the seat's roots in one cut). By AI agents, Wed Nov 11 2026. No macro, syntax, notation, axiom, sorry.
-/
import Derived.Test.YtnlemaaglbbdnaaChecked
import GoSem.Claim
import GoSem.ClaimJoined
import GoSem.ClaimMapViews
import Derived.JoinedTies
import Derived.KernelRfl
namespace Go.Proofs.Ytnlemaaglbbdnaa
/- THE CELL 'sum', in the pinned program and in every row, IS THE sha256 OF THE DUMP (.gsa) THAT YtnlemaaglbbdnaaProg.lean LOADS. Nothing in Lean hashes anything: it is a label: what it is worth is what the hold of that sum in a sandbox is worth. -/
noncomputable def Try.pinned : Pinned := { name := "ytnlemaaglbbdnaa", sum := "20b93ac9f75b10885e725e9f8937845912f1cb4edb877f7cd5829f06512be8a7", checked := Try.checked }
namespace Rows
def none {H : Type} : Left H := { results := [], args := [] }

/-- 'pressworklaw16.FactorGreedy': WHATEVER THE INPUT: true; the input reads as it did. -/
def factorGreedySpec : ChangeSpec := { name := "factorGreedy", fn := fun _ => fun
  | [d1, d2] => { results := [.lit (.bool true)], args := [d1, d2] }
  | _ => none }
def factorGreedyRow : OpenClaim := { program := "ytnlemaaglbbdnaa", sum := "20b93ac9f75b10885e725e9f8937845912f1cb4edb877f7cd5829f06512be8a7", func := "presswork/pressworklaw16.FactorGreedy", spec := "factorGreedy", unfollowed := true, recurses := true, apart := false }
def FactorGreedySaid : Prop := factorGreedyRow.holds Try.pinned (OpenSpec.ofChange factorGreedySpec)

/-- ITS FALSE NEIGHBOUR: 'it returns false'. Refute it at one input. -/
def factorGreedyWrong : ChangeSpec := { name := "factorGreedy", fn := fun _ => fun
  | [d1, d2] => { results := [.lit (.bool false)], args := [d1, d2] }
  | _ => none }
def FactorGreedyWrongFalsely : Prop := factorGreedyRow.holds Try.pinned (OpenSpec.ofChange factorGreedyWrong)

/-- 'pressworklaw16.FactorLocal': WHATEVER THE INPUT: true; the input reads as it did. -/
def factorLocalSpec : ChangeSpec := { name := "factorLocal", fn := fun _ => fun
  | [d1, d2] => { results := [.lit (.bool true)], args := [d1, d2] }
  | _ => none }
def factorLocalRow : OpenClaim := { program := "ytnlemaaglbbdnaa", sum := "20b93ac9f75b10885e725e9f8937845912f1cb4edb877f7cd5829f06512be8a7", func := "presswork/pressworklaw16.FactorLocal", spec := "factorLocal", unfollowed := true, recurses := true, apart := false }
def FactorLocalSaid : Prop := factorLocalRow.holds Try.pinned (OpenSpec.ofChange factorLocalSpec)

/-- ITS FALSE NEIGHBOUR: 'it returns false'. Refute it at one input. -/
def factorLocalWrong : ChangeSpec := { name := "factorLocal", fn := fun _ => fun
  | [d1, d2] => { results := [.lit (.bool false)], args := [d1, d2] }
  | _ => none }
def FactorLocalWrongFalsely : Prop := factorLocalRow.holds Try.pinned (OpenSpec.ofChange factorLocalWrong)

/-- 'pressworklaw16.FactorKnown': WHATEVER THE INPUT: true; the input reads as it did. -/
def factorKnownSpec : ChangeSpec := { name := "factorKnown", fn := fun _ => fun
  | [] => { results := [.lit (.bool true)], args := [] }
  | _ => none }
def factorKnownRow : OpenClaim := { program := "ytnlemaaglbbdnaa", sum := "20b93ac9f75b10885e725e9f8937845912f1cb4edb877f7cd5829f06512be8a7", func := "presswork/pressworklaw16.FactorKnown", spec := "factorKnown", unfollowed := true, recurses := true, apart := false }
def FactorKnownSaid : Prop := factorKnownRow.holds Try.pinned (OpenSpec.ofChange factorKnownSpec)

/-- ITS FALSE NEIGHBOUR: 'it returns false'. Refute it at one input. -/
def factorKnownWrong : ChangeSpec := { name := "factorKnown", fn := fun _ => fun
  | [] => { results := [.lit (.bool false)], args := [] }
  | _ => none }
def FactorKnownWrongFalsely : Prop := factorKnownRow.holds Try.pinned (OpenSpec.ofChange factorKnownWrong)

/-- 'pressworklaw16.FactorTwice': WHATEVER THE INPUT: true; the input reads as it did. -/
def factorTwiceSpec : ChangeSpec := { name := "factorTwice", fn := fun _ => fun
  | [d] => { results := [.lit (.bool true)], args := [d] }
  | _ => none }
def factorTwiceRow : OpenClaim := { program := "ytnlemaaglbbdnaa", sum := "20b93ac9f75b10885e725e9f8937845912f1cb4edb877f7cd5829f06512be8a7", func := "presswork/pressworklaw16.FactorTwice", spec := "factorTwice", unfollowed := true, recurses := true, apart := false }
def FactorTwiceSaid : Prop := factorTwiceRow.holds Try.pinned (OpenSpec.ofChange factorTwiceSpec)

/-- ITS FALSE NEIGHBOUR: 'it returns false'. Refute it at one input. -/
def factorTwiceWrong : ChangeSpec := { name := "factorTwice", fn := fun _ => fun
  | [d] => { results := [.lit (.bool false)], args := [d] }
  | _ => none }
def FactorTwiceWrongFalsely : Prop := factorTwiceRow.holds Try.pinned (OpenSpec.ofChange factorTwiceWrong)

/-- 'pressworklaw16.FactorSays': WHATEVER THE INPUT: true; the input reads as it did. -/
def factorSaysSpec : ChangeSpec := { name := "factorSays", fn := fun _ => fun
  | [d1, d2, d3] => { results := [.lit (.bool true)], args := [d1, d2, d3] }
  | _ => none }
def factorSaysRow : OpenClaim := { program := "ytnlemaaglbbdnaa", sum := "20b93ac9f75b10885e725e9f8937845912f1cb4edb877f7cd5829f06512be8a7", func := "presswork/pressworklaw16.FactorSays", spec := "factorSays", unfollowed := true, recurses := true, apart := false }
def FactorSaysSaid : Prop := factorSaysRow.holds Try.pinned (OpenSpec.ofChange factorSaysSpec)

/-- ITS FALSE NEIGHBOUR: 'it returns false'. Refute it at one input. -/
def factorSaysWrong : ChangeSpec := { name := "factorSays", fn := fun _ => fun
  | [d1, d2, d3] => { results := [.lit (.bool false)], args := [d1, d2, d3] }
  | _ => none }
def FactorSaysWrongFalsely : Prop := factorSaysRow.holds Try.pinned (OpenSpec.ofChange factorSaysWrong)

/- THE SECOND FORM. 'bulk': how many values and letters a reading holds, each counted each time it is reached (what is shared counts as often as it is met; a slice's spare places count too). A statement '..UptoSaid' is the law's where the arguments, and the package variables that the reading takes, are together of bulk at most 1048576: NARROWER than '..Said'. Prove '..Said' where nothing that the law and all that it calls make is longer than what came in: it says more and counts as full. Else prove '..UptoSaid'. A law counts once. -/
mutual
def uptoBulk {H : Type} : DataW H → Nat
  | .lit (.string bytes) => bytes.length + 1
  | .lit _ => 1
  | .nil => 1
  | .ptr d => uptoBulk d + 1
  | .slice elems spare => uptoBulkAll elems + uptoBulkAll spare + 1
  | .agg parts => uptoBulkAll parts + 1
  | .iface _ d => uptoBulk d + 1
  | .map entries => uptoBulkEntries entries + 1
  | .held _ => 1
def uptoBulkAll {H : Type} : List (DataW H) → Nat
  | [] => 0
  | d :: r => uptoBulk d + uptoBulkAll r
def uptoBulkEntries {H : Type} : List (Lit × DataW H) → Nat
  | [] => 0
  | x :: r => uptoBulkEntry x + uptoBulkEntries r
def uptoBulkEntry {H : Type} : Lit × DataW H → Nat
  | (.string bytes, d) => bytes.length + uptoBulk d + 1
  | (_, d) => uptoBulk d + 1
 end
def uptoSmall : (H : Type) → List (DataW H) → Bool := fun _ ds => decide (uptoBulkAll ds ≤ 1048576)
def OpenSpec.upto (s : _root_.Go.ChangeSpec) : _root_.Go.OpenSpec := { _root_.Go.OpenSpec.ofChange s with cond := some uptoSmall }

/-- 'pressworklaw16.FactorGreedy', WHERE WHAT IT READS IS OF BULK AT MOST 1048576: true; the input reads as it did. -/
def factorGreedyUptoRow : OpenClaim := { program := "ytnlemaaglbbdnaa", sum := "20b93ac9f75b10885e725e9f8937845912f1cb4edb877f7cd5829f06512be8a7", func := "presswork/pressworklaw16.FactorGreedy", spec := "factorGreedy", unfollowed := true, recurses := true, apart := false, narrowed := true }
def FactorGreedyUptoSaid : Prop := factorGreedyUptoRow.holds Try.pinned (OpenSpec.upto factorGreedySpec)

/-- 'pressworklaw16.FactorLocal', WHERE WHAT IT READS IS OF BULK AT MOST 1048576: true; the input reads as it did. -/
def factorLocalUptoRow : OpenClaim := { program := "ytnlemaaglbbdnaa", sum := "20b93ac9f75b10885e725e9f8937845912f1cb4edb877f7cd5829f06512be8a7", func := "presswork/pressworklaw16.FactorLocal", spec := "factorLocal", unfollowed := true, recurses := true, apart := false, narrowed := true }
def FactorLocalUptoSaid : Prop := factorLocalUptoRow.holds Try.pinned (OpenSpec.upto factorLocalSpec)

/-- 'pressworklaw16.FactorKnown', WHERE WHAT IT READS IS OF BULK AT MOST 1048576: true; the input reads as it did. -/
def factorKnownUptoRow : OpenClaim := { program := "ytnlemaaglbbdnaa", sum := "20b93ac9f75b10885e725e9f8937845912f1cb4edb877f7cd5829f06512be8a7", func := "presswork/pressworklaw16.FactorKnown", spec := "factorKnown", unfollowed := true, recurses := true, apart := false, narrowed := true }
def FactorKnownUptoSaid : Prop := factorKnownUptoRow.holds Try.pinned (OpenSpec.upto factorKnownSpec)

/-- 'pressworklaw16.FactorTwice', WHERE WHAT IT READS IS OF BULK AT MOST 1048576: true; the input reads as it did. -/
def factorTwiceUptoRow : OpenClaim := { program := "ytnlemaaglbbdnaa", sum := "20b93ac9f75b10885e725e9f8937845912f1cb4edb877f7cd5829f06512be8a7", func := "presswork/pressworklaw16.FactorTwice", spec := "factorTwice", unfollowed := true, recurses := true, apart := false, narrowed := true }
def FactorTwiceUptoSaid : Prop := factorTwiceUptoRow.holds Try.pinned (OpenSpec.upto factorTwiceSpec)

/-- 'pressworklaw16.FactorSays', WHERE WHAT IT READS IS OF BULK AT MOST 1048576: true; the input reads as it did. -/
def factorSaysUptoRow : OpenClaim := { program := "ytnlemaaglbbdnaa", sum := "20b93ac9f75b10885e725e9f8937845912f1cb4edb877f7cd5829f06512be8a7", func := "presswork/pressworklaw16.FactorSays", spec := "factorSays", unfollowed := true, recurses := true, apart := false, narrowed := true }
def FactorSaysUptoSaid : Prop := factorSaysUptoRow.holds Try.pinned (OpenSpec.upto factorSaysSpec)

end Rows
end Go.Proofs.Ytnlemaaglbbdnaa
