/- The law NearFinds, walked. -/
import Derived.Test.YtkijfooijchilaaNearQ
namespace Go.Proofs.Ytkijfooijchilaa
set_option linter.unusedSimpArgs false
set_option linter.unusedVariables false
open Go.RowKit

set_option maxRecDepth 100000 in
set_option maxHeartbeats 2000000 in
theorem nearFinds_law (w : World) (ad : Option Addr) (n cap : Nat) (xs : List Int) (hb : Rd w 1 ad n cap (I64 xs)) (hg : ∀ z ∈ xs, -9223372036854775808 ≤ z ∧ z ≤ 9223372036854775807) :
    Calls Try.prog 3 #[.slice ad n cap] w fun e w' => e = .returned (.bool true) ∧ Below w.heap.size w w' := by
  clear hg
  by_cases hn : 600 < n
  · go_enter Try.func3, Try.ntmps3
    go_wp2
    go_ret
    exact ⟨rfl, Below.refl _ _⟩
  · have hl := hb.lenI
    have HL := Lib.hid hl; clear hl
    go_enter Try.func3, Try.ntmps3
    go_wp2_with (refine wpList_clone rfl _ _ _ rfl tI rfl rfl hb (by unfold maxLen; omega) (by omega) ?_; intro ai ci w1 hi hb1 hs1)
    have hr1 := hi.rd
    refine (ahead_any _ _ _ _ xs hr1 (by omega)).mono ?_
    rintro e w2 ⟨g2, rfl, o2, b2⟩
    have c2 := hb1.trans (b2.mono hb1.size)
    rw [HL.out] at o2
    go_wp2_with fail
    refine (refAhead_law _ _ _ _ xs (hb.below c2) (by omega)).mono ?_
    rintro e w3 ⟨a3, p3, rfl, o3, b3⟩
    have c3 := c2.trans (b3.mono c2.size)
    go_wp2_with fail
    refine (same_law _ _ _ _ _ _ _ _ _ (o2.rd.below b3) o3.rd).mono ?_
    rintro e w4 ⟨rfl, b4⟩
    have c4 := c3.trans (b4.mono c3.size)
    rw [show decide (refAhead xs n = refAhead xs n) = true from by simp]
    go_wp2_with fail
    have hr4 := hr1.below (b2.trans ((b3.mono b2.size).trans (b4.mono (Nat.le_trans b2.size b3.size))))
    refine (behind_any _ _ _ _ xs hr4 (by omega)).mono ?_
    rintro e w5 ⟨g5, rfl, o5, b5⟩
    have c5 := c4.trans (b5.mono c4.size)
    rw [HL.out] at o5
    go_wp2_with fail
    refine (refBehind_law _ _ _ _ xs (hb.below c5) (by omega)).mono ?_
    rintro e w6 ⟨a6, p6, rfl, o6, b6⟩
    have c6 := c5.trans (b6.mono c5.size)
    go_wp2_with fail
    refine (same_law _ _ _ _ _ _ _ _ _ (o5.rd.below b6) o6.rd).mono ?_
    rintro e w7 ⟨rfl, b7⟩
    have c7 := c6.trans (b7.mono c6.size)
    rw [show decide (refBehind xs n = refBehind xs n) = true from by simp]
    go_wp2_with fail
    have hr7 := hr4.below (b5.trans ((b6.mono b5.size).trans (b7.mono (Nat.le_trans b5.size b6.size))))
    refine (same_law _ _ _ _ _ _ _ _ _ hr7 (hb.below c7)).mono ?_
    rintro e w8 ⟨rfl, b8⟩
    have c8 := c7.trans (b8.mono c7.size)
    rw [show decide (xs = xs) = true from by simp]
    go_wp2_with fail
    refine (finds_any _).mono ?_
    rintro e w9 ⟨rfl, b9⟩
    have c9 := c8.trans (b9.mono c8.size)
    go_wp2_with fail
    go_ret
    exact ⟨rfl, c9⟩
end Go.Proofs.Ytkijfooijchilaa
