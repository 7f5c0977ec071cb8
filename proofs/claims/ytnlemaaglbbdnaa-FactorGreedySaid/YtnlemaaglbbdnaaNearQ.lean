/- What the laws of near share: the known answers; near.Ahead and near.Behind by the document's. -/
import Derived.Test.YtnlemaaglbbdnaaNearM
namespace Go.Proofs.Ytnlemaaglbbdnaa
set_option linter.unusedSimpArgs false
set_option linter.unusedVariables false
open Go.RowKit

theorem ahead_any (w : World) (ad : Option Addr) (n cap : Nat) (zs : List Int) (hz : Rd w 1 ad n cap (I64 zs)) (hn : n ≤ 100000) :
    Calls Try.prog 22 #[.slice ad n cap] w fun e w' => ∃ g, e = .returned (.slice (some ⟨g, 0, none⟩) n n) ∧ Own w' 3 1 w.heap.size (some ⟨g, 0, none⟩) n n (I64 (refAhead zs zs.length)) ∧ Below w.heap.size w w' := by
  have := ahead_law w ad n cap zs hz hn
  rw [aheadL_eq] at this; exact this
theorem behind_any (w : World) (ad : Option Addr) (n cap : Nat) (zs : List Int) (hz : Rd w 1 ad n cap (I64 zs)) (hn : n ≤ 100000) :
    Calls Try.prog 23 #[.slice ad n cap] w fun e w' => ∃ g, e = .returned (.slice (some ⟨g, 0, none⟩) n n) ∧ Own w' 3 1 w.heap.size (some ⟨g, 0, none⟩) n n (I64 (refBehind zs zs.length)) ∧ Below w.heap.size w w' := by
  have := behind_law w ad n cap zs hz hn
  rw [behindL_eq] at this; exact this

/-- a row of numbers just laid -/
theorem Rd.lits (w : World) (e : Nat) (xs : List Int) (hl : xs.length ≤ maxLen) : Rd (w.alloc (.cells (I64 xs).toArray e)) 1 (some ⟨w.heap.size, 0, none⟩) xs.length xs.length (I64 xs) :=
  Rd.row w e 1 xs.length (I64 xs) (by rw [I64_len]; omega) hl (I64_one xs)

end Go.Proofs.Ytnlemaaglbbdnaa
