/- More for the walks: worlds behind regions walked in the text's order. Of no program. -/
import Derived.Test.YtkijfooijchilaaLib
namespace Go.Proofs.Ytkijfooijchilaa
set_option linter.unusedSimpArgs false
set_option linter.unusedVariables false
open Go.RowKit

theorem bDraws {B : Nat} {a w : World} (h : Below B a w) (n : Nat) : Below B a (w.drewN n) := ⟨h.os, h.tape, h.output, h.size, h.block⟩
theorem rdDraws {w : World} {sz : Nat} {ad : Option Addr} {n cap : Nat} {cs : List Value} (h : Rd w sz ad n cap cs) (m : Nat) : Rd (w.drewN m) sz ad n cap cs := h.below (bDraws (Below.refl _ _) m)
theorem ownDraws {w : World} {e sz lo : Nat} {ad : Option Addr} {n cap : Nat} {cs : List Value} (h : Own w e sz lo ad n cap cs) (m : Nat) : Own (w.drewN m) e sz lo ad n cap cs := h.below (bDraws (Below.refl _ _) m)
theorem deF {p : Prop} [Decidable p] (h : ¬ p) : decide p = false := decide_eq_false h
theorem deT {p : Prop} [Decidable p] (h : p) : decide p = true := decide_eq_true h
theorem add_zero (a : Addr) : a.add 0 = a := by unfold Addr.add; split <;> simp_all
/-- a slice's part from its beginning on lies where the slice lies -/
@[go_sem ↓ high] theorem sliced_zero (a : Option Addr) (h m s : Nat) : sliced a 0 h m s = .slice a h m := by
  unfold sliced
  cases a <;> simp [add_zero]
end Go.Proofs.Ytkijfooijchilaa
