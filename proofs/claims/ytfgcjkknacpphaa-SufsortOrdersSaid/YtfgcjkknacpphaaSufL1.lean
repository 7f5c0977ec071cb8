/- The law SufsortOrders, walked. -/
import Derived.Test.YtfgcjkknacpphaaSufK
namespace Go.Proofs.Ytfgcjkknacpphaa
set_option linter.unusedSimpArgs false
set_option linter.unusedVariables false
open Go.RowKit

set_option maxRecDepth 100000 in
set_option maxHeartbeats 2000000 in
theorem sufsortOrders_law (w : World) (ad : Option Addr) (n cap : Nat) (b : List UInt8) (hb : Rd w 1 ad n cap (B8 b)) :
    Calls Try.prog 3 #[.slice ad n cap] w fun e w' => e = .returned (.bool true) ∧ Below w.heap.size w w' := by
  by_cases hn : 300 < n
  · go_enter Try.func3, Try.ntmps3
    go_wp2
    go_ret
    exact ⟨rfl, Below.refl _ _⟩
  · go_enter Try.func3, Try.ntmps3
    go_wp2_with (refine wpList_clone rfl _ _ _ rfl elB rfl rfl hb (by unfold maxLen; omega) (by omega) ?_; intro ai ci w1 hi c1 hs1)
    clear hs1
    have r1 := hi.rd
    clear hi
    refine (ends_law _ _ _ _ b r1 (by omega)).mono ?_
    rintro e w2 ⟨g2, o2, rfl, own2, ord2, b2⟩
    have c2 := c1.trans (b2.mono c1.size)
    have r2 := r1.below b2
    clear r1 b2 c1
    have h2 := hb.below c2
    go_wp2_with fail
    refine (orderE_law _ _ _ _ b h2 (by omega)).mono ?_
    rintro e w3 ⟨a3, cp3, o3, rfl, own3, ord3, b3⟩
    have c3 := c2.trans (b3.mono c2.size)
    have r3 := r2.below b3
    have own23 := own2.below b3
    clear r2 b3 c2 own2 h2
    go_wp2_with fail
    refine (same_nat _ _ _ _ _ _ _ _ _ own23.rd own3.rd (ord2.unique ord3)).mono ?_
    rintro e w4 ⟨rfl, b4⟩
    have c4 := c3.trans (b4.mono c3.size)
    have r4 := r3.below b4
    clear r3 b4 c3 own23 own3 ord2 ord3
    go_wp2_with fail
    refine (rotations_law _ _ _ _ b r4 (by omega)).mono ?_
    rintro e w5 ⟨g5, o5, rfl, own5, ord5, b5⟩
    have c5 := c4.trans (b5.mono c4.size)
    have r5 := r4.below b5
    clear r4 b5 c4
    have h5 := hb.below c5
    go_wp2_with fail
    refine (orderR_law _ _ _ _ b h5 (by omega)).mono ?_
    rintro e w6 ⟨a6, cp6, o6, rfl, own6, ord6, b6⟩
    have c6 := c5.trans (b6.mono c5.size)
    have r6 := r5.below b6
    have own56 := own5.below b6
    clear r5 b6 c5 own5 h5
    go_wp2_with fail
    refine (same_nat _ _ _ _ _ _ _ _ _ own56.rd own6.rd (ord5.unique ord6)).mono ?_
    rintro e w7 ⟨rfl, b7⟩
    have c7 := c6.trans (b7.mono c6.size)
    have r7 := r6.below b7
    clear r6 b7 c6 own56 own6 ord5 ord6
    have h7 := hb.below c7
    have s1 := run_str (P := Try.prog) (dst := 9) Try.underlying22 Try.underlying5 Try.underlying9 r7
    have s2 := run_str (P := Try.prog) (dst := 9) Try.underlying22 Try.underlying5 Try.underlying9 h7
    go_wp2_with fail
    refine (sorts_any _).mono ?_
    rintro e w8 ⟨rfl, b8⟩
    have c8 := c7.trans (b8.mono c7.size)
    clear c7 b8
    go_wp2
    go_ret
    exact ⟨rfl, c8⟩
end Go.Proofs.Ytfgcjkknacpphaa
