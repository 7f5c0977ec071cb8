/- The law SufsortPlaces, walked. -/
import Derived.Test.YtfgcjkknacpphaaSufK
namespace Go.Proofs.Ytfgcjkknacpphaa
set_option linter.unusedSimpArgs false
set_option linter.unusedVariables false
open Go.RowKit

set_option maxRecDepth 100000 in
set_option maxHeartbeats 2000000 in
theorem sufsortPlaces_law (w : World) (ad : Option Addr) (n cap : Nat) (xs : List Int) (hb : Rd w 1 ad n cap (I64 xs)) (hg : ∀ z ∈ xs, -9223372036854775808 ≤ z ∧ z ≤ 9223372036854775807) :
    Calls Try.prog 4 #[.slice ad n cap] w fun e w' => e = .returned (.bool true) ∧ Below w.heap.size w w' := by
  clear hg
  by_cases hn : 300 < n
  · go_enter Try.func4, Try.ntmps4
    go_wp2
    go_ret
    exact ⟨rfl, Below.refl _ _⟩
  · go_enter Try.func4, Try.ntmps4
    go_wp2_with (refine wpList_clone rfl _ _ _ rfl tI rfl rfl hb (by unfold maxLen; omega) (by omega) ?_; intro ai ci w1 hi c1 hs1)
    clear hs1
    have r1 := hi.rd
    clear hi
    refine (places_any _ _ _ _ xs r1 (by omega)).mono ?_
    rintro e w2 ⟨a2, m2, cp2, o2, rfl, own2, p2, b2⟩
    have c2 := c1.trans (b2.mono c1.size)
    have r2 := r1.below b2
    clear r1 b2 c1
    have h2 := hb.below c2
    go_wp2_with fail
    refine (refPlaces_any _ _ _ _ xs h2 (by omega)).mono ?_
    rintro e w3 ⟨a3, m3, cp3, o3, rfl, own3, p3, b3⟩
    have c3 := c2.trans (b3.mono c2.size)
    have r3 := r2.below b3
    have own23 := own2.below b3
    clear r2 b3 c2 own2 h2
    go_wp2_with fail
    refine (same_nat _ _ _ _ _ _ _ _ _ own23.rd own3.rd (p2.unique p3)).mono ?_
    rintro e w4 ⟨rfl, b4⟩
    have c4 := c3.trans (b4.mono c3.size)
    have r4 := r3.below b4
    clear r3 b4 c3 own23 own3
    have h4 := hb.below c4
    go_wp2_with fail
    refine (same_int _ _ _ _ _ _ _ _ _ r4 h4 rfl).mono ?_
    rintro e w5 ⟨rfl, b5⟩
    have c5 := c4.trans (b5.mono c4.size)
    clear r4 h4 b5 c4
    go_wp2_with fail
    refine (sorts_any _).mono ?_
    rintro e w8 ⟨rfl, b8⟩
    have c8 := c5.trans (b8.mono c5.size)
    clear c5 b8
    go_wp2
    go_ret
    exact ⟨rfl, c8⟩
end Go.Proofs.Ytfgcjkknacpphaa
