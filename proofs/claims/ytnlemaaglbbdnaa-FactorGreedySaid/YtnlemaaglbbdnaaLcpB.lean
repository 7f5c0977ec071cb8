/- The document's Least, Common and Heights: the walks. -/
import Derived.Test.YtnlemaaglbbdnaaLcpA
namespace Go.Proofs.Ytnlemaaglbbdnaa
set_option linter.unusedSimpArgs false
set_option linter.unusedVariables false
open Go.RowKit

theorem cell_far {w : World} {a p : Addr} {v u : Value} (h : a.block ≠ p.block) (hc : w.cell? a = some u) : (w.setCell p v).cell? a = some u := by
  rw [World.cell?_of_block (w := w) (Below.heap_setCell w p v a.block h)]; exact hc
/-- what Heights answers -/
theorem hgt_len2 (b : List UInt8) (o : List Nat) : (hgtL b o).length = b.length := rowN_len _ _

end Go.Proofs.Ytnlemaaglbbdnaa
