/- More for the walks: worlds behind regions walked in the text's order. Of no program. -/
import Derived.Test.YtjjdckbdjmbndaaLib
namespace Go.Proofs.Ytjjdckbdjmbndaa
set_option linter.unusedSimpArgs false
set_option linter.unusedVariables false
open Go.RowKit

theorem bDraws {B : Nat} {a w : World} (h : Below B a w) (n : Nat) : Below B a (w.drewN n) := ⟨h.os, h.tape, h.output, h.size, h.block⟩
theorem rdDraws {w : World} {sz : Nat} {ad : Option Addr} {n cap : Nat} {cs : List Value} (h : Rd w sz ad n cap cs) (m : Nat) : Rd (w.drewN m) sz ad n cap cs := h.below (bDraws (Below.refl _ _) m)
theorem ownDraws {w : World} {e sz lo : Nat} {ad : Option Addr} {n cap : Nat} {cs : List Value} (h : Own w e sz lo ad n cap cs) (m : Nat) : Own (w.drewN m) e sz lo ad n cap cs := h.below (bDraws (Below.refl _ _) m)
theorem deF {p : Prop} [Decidable p] (h : ¬ p) : decide p = false := decide_eq_false h
theorem deT {p : Prop} [Decidable p] (h : p) : decide p = true := decide_eq_true h
theorem add_zero (a : Addr) : a.add 0 = a := by unfold Addr.add; split <;> simp_all
/-- a slice's part from its beginning on lies where the slice lies -/
@[go_sem ↓ high] theorem sliced_zero (a : Option Addr) (h m s : Nat) : sliced a 0 h m s = .slice a h m := by
  unfold sliced
  cases a <;> simp [add_zero]

/-- two owned slices do not lie in one block -/
def Apart (a b : Option Addr) : Prop := ∀ g, a = some ⟨g, 0, none⟩ → b ≠ some ⟨g, 0, none⟩
theorem Apart.symm {a b : Option Addr} (h : Apart a b) : Apart b a := fun g h1 h2 => h g h2 h1
theorem Apart.none_left (b : Option Addr) : Apart none b := fun g h => by cases h
theorem Apart.none_right (a : Option Addr) : Apart a none := fun g _ h => by cases h
/-- behind an append to the first -/
theorem Apart.grow {w : World} {a a' b : Option Addr} {e sz lo n cap : Nat} {cs : List Value} (h : Apart a b) (ob : Own w e sz lo b n cap cs) (hn : ∀ g, a' = some ⟨g, 0, none⟩ → a = some ⟨g, 0, none⟩ ∨ w.heap.size ≤ g) : Apart a' b := by
  intro g h1 h2
  rcases hn g h1 with h3 | h3
  · exact h g h3 h2
  · have := (ob.blk h2).2; omega
theorem Own.apart {w w' : World} {a b : Option Addr} {e sz lo n cap : Nat} {cs : List Value} (ob : Own w e sz lo b n cap cs) (hg : w.grownBy w' (bOf a)) (h : Apart a b) (ha : ∀ x, a = some x → x = ⟨x.block, 0, none⟩) : Own w' e sz lo b n cap cs :=
  ob.other hg fun g hb => by
    intro e
    cases a with
    | none => cases e
    | some x =>
      simp [bOf] at e
      subst e
      exact h x.block (by rw [← ha x rfl]) hb
theorem Own.shape {w : World} {a : Option Addr} {e sz lo n cap : Nat} {cs : List Value} (o : Own w e sz lo a n cap cs) : ∀ x, a = some x → x = ⟨x.block, 0, none⟩ := by
  intro x hx
  obtain ⟨_, hc⟩ := o.cases
  rcases hc with ⟨h, _⟩ | ⟨g, cur, h, _⟩
  · rw [h] at hx; cases hx
  · rw [h] at hx; cases hx; rfl
/-- nothing, read -/
theorem Rd.empty (w : World) (sz : Nat) : Rd w sz none 0 0 [] := ⟨by simp, Nat.le_refl _, Nat.zero_le _, fun _ => rfl, by simp, fun a ha => by cases ha⟩
end Go.Proofs.Ytjjdckbdjmbndaa
