/- The law RotateTurns, walked. -/
import Derived.Test.YtjjdckbdjmbndaaRotD
namespace Go.Proofs.Ytjjdckbdjmbndaa
set_option linter.unusedSimpArgs false
set_option linter.unusedVariables false
open Go.RowKit

set_option maxRecDepth 100000 in
set_option maxHeartbeats 2000000 in
theorem rotateTurns_law (w : World) (ad : Option Addr) (n cap : Nat) (b : List UInt8) (hb : Rd w 1 ad n cap (B8 b)) :
    Calls Try.prog 3 #[.slice ad n cap] w fun e w' => e = .returned (.bool true) ∧ Below w.heap.size w w' := by
  by_cases hn : 200 < n
  · go_enter Try.func3, Try.ntmps3
    go_wp2
    go_ret
    exact ⟨rfl, Below.refl _ _⟩
  · go_enter Try.func3, Try.ntmps3
    go_wp2_with (refine wpList_clone rfl _ _ _ rfl elB rfl rfl hb (by unfold maxLen; omega) (by omega) ?_; intro ai ci w1 hi c1 hs1)
    clear hs1
    have r1 := hi.rd
    clear hi
    refine (turn_law _ _ _ _ b r1 (by omega)).mono ?_
    rintro e w2 ⟨a2, k2, o2, rfl, ord2, own2, b2⟩
    have c2 := c1.trans (b2.mono c1.size)
    have r2 := r1.below b2
    clear r1 b2 c1
    have h2 := hb.below c2
    go_wp2_with fail
    refine (refTurn_law _ _ _ _ b h2 (by omega)).mono ?_
    rintro e w3 ⟨a3, k3, o3, rfl, ord3, own3, b3⟩
    have c3 := c2.trans (b3.mono c2.size)
    obtain rfl := ord2.unique ord3
    have s1 := rstr (own2.rd.below b3)
    have s2 := rstr own3.rd
    have s3 := rstr (r2.below b3)
    have s4 := rstr (hb.below c3)
    clear r2 b3 c2 own2 h2 own3 ord2 ord3
    go_wp2_with fail
    refine (turns_any _).mono ?_
    rintro e w8 ⟨rfl, b8⟩
    have c8 := c3.trans (b8.mono c3.size)
    clear c3 b8
    go_wp2
    go_ret
    exact ⟨rfl, c8⟩
end Go.Proofs.Ytjjdckbdjmbndaa
