/- The document's answers: walks. -/
import Derived.Test.YtnlemaaglbbdnaaNearN
namespace Go.Proofs.Ytnlemaaglbbdnaa
set_option linter.unusedSimpArgs false
set_option linter.unusedVariables false
open Go.RowKit

/-- the nearest lesser one ahead, looked for from c downwards; one more than its place -/
def backI (zs : List Int) (v : Int) : Nat → Nat
  | 0 => 0
  | c + 1 => if v ≤ atI zs c then backI zs v c else c + 1
def refAhead (zs : List Int) (m : Nat) : List Int := (List.range m).map fun i => (backI zs (atI zs i) i : Int) - 1
theorem refAhead_succ (zs : List Int) (m : Nat) : refAhead zs (m + 1) = refAhead zs m ++ [(backI zs (atI zs m) m : Int) - 1] := by simp [refAhead, List.range_succ]

/-- the nearest lesser one behind, d places left -/
def forI (zs : List Int) (v : Int) (n : Nat) : Nat → Nat
  | 0 => n
  | d + 1 => if v ≤ atI zs (n - (d + 1)) then forI zs v n d else n - (d + 1)
def refBehind (zs : List Int) (m : Nat) : List Int := (List.range m).map fun i => (forI zs (atI zs i) zs.length (zs.length - (i + 1)) : Int)
theorem refBehind_succ (zs : List Int) (m : Nat) : refBehind zs (m + 1) = refBehind zs m ++ [(forI zs (atI zs m) zs.length (zs.length - (m + 1)) : Int)] := by simp [refBehind, List.range_succ]

end Go.Proofs.Ytnlemaaglbbdnaa
