/- pressworkref13.Same: the same numbers? -/
import Derived.Test.YtnlemaaglbbdnaaRows
import Derived.Test.YtnlemaaglbbdnaaLib
namespace Go.Proofs.Ytnlemaaglbbdnaa
set_option linter.unusedSimpArgs false
set_option linter.unusedVariables false
open Go.RowKit

theorem atI_ext {xs ys : List Int} (hl : xs.length = ys.length) (h : ∀ j, j < xs.length → atI xs j = atI ys j) : xs = ys := by
  apply List.ext_getElem hl
  intro i h1 h2
  have := h i h1
  simpa [atI, h1, h2] using this

end Go.Proofs.Ytnlemaaglbbdnaa
