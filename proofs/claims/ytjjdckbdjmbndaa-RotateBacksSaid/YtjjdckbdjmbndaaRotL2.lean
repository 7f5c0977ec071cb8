/- The law RotateBacks, walked. -/
import Derived.Test.YtjjdckbdjmbndaaRotD
namespace Go.Proofs.Ytjjdckbdjmbndaa
set_option linter.unusedSimpArgs false
set_option linter.unusedVariables false
open Go.RowKit

set_option maxRecDepth 100000 in
set_option maxHeartbeats 2000000 in
theorem rotateBacks_law (w : World) (ad : Option Addr) (n cap : Nat) (b : List UInt8) (hb : Rd w 1 ad n cap (B8 b)) (z : Int) (hz : (-9223372036854775808 : Int) ≤ z ∧ z ≤ 9223372036854775807) :
    Calls Try.prog 4 #[.slice ad n cap, .int .i64 z] w fun e w' => e = .returned (.bool true) ∧ Below w.heap.size w w' := by
  clear hz
  by_cases hn : 1000 < n
  · go_enter Try.func4, Try.ntmps4
    go_wp2
    go_ret
    exact ⟨rfl, Below.refl _ _⟩
  · go_enter Try.func4, Try.ntmps4
    go_wp2_with (refine wpList_clone rfl _ _ _ rfl elB rfl rfl hb (by unfold maxLen; omega) (by omega) ?_; intro ai ci w1 hi c1 hs1)
    clear hs1
    have r1 := hi.rd
    clear hi
    refine (back_law _ _ _ _ b r1 (by omega) z).mono ?_
    rintro e w2 ⟨b2, hcase2⟩
    have c2 := c1.trans (b2.mono c1.size)
    have r2 := r1.below b2
    clear r1 b2 c1
    have h2 := hb.below c2
    rcases hcase2 with ⟨hout, rfl⟩ | ⟨p, a2, k2, rfl, hp, rfl, own2⟩
    · have HO := Lib.hid hout; clear hout
      go_wp2_with fail
      refine (refBack_law _ _ _ _ b h2 (by omega) z).mono ?_
      rintro e w3 ⟨b3, hcase3⟩
      rcases hcase3 with ⟨hout3, rfl⟩ | ⟨p, a2, k2, rfl, hp, rfl, own2⟩
      · have c3 := c2.trans (b3.mono c2.size)
        have s1 : (convert 22 9 (.slice none 0 0)).run Try.prog w3 = .ok (.string (bstr [])) w3 := rstr (Rd.empty _ _)
        have s3 := rstr (r2.below b3)
        have s4 := rstr (hb.below c3)
        clear r2 b3 c2 h2 hout3
        go_wp2_with fail
        refine (turns_any _).mono ?_
        rintro e w8 ⟨rfl, b8⟩
        have c8 := c3.trans (b8.mono c3.size)
        clear c3 b8
        go_wp2
        go_ret
        exact ⟨rfl, c8⟩
      · exact absurd ⟨by omega, by omega⟩ HO.out
    · go_wp2_with fail
      refine (refBack_law _ _ _ _ b h2 (by omega) p).mono ?_
      rintro e w3 ⟨b3, hcase3⟩
      rcases hcase3 with ⟨hout3, rfl⟩ | ⟨p3, a3, k3, hpp, hp3, rfl, own3⟩
      · exact absurd ⟨by omega, by omega⟩ hout3
      · obtain rfl : p = p3 := by omega
        have c3 := c2.trans (b3.mono c2.size)
        have s1 := rstr (own2.rd.below b3)
        have s2 := rstr own3.rd
        have s3 := rstr (r2.below b3)
        have s4 := rstr (hb.below c3)
        clear r2 b3 c2 h2 own2 own3 hpp hp3
        go_wp2_with fail
        refine (turns_any _).mono ?_
        rintro e w8 ⟨rfl, b8⟩
        have c8 := c3.trans (b8.mono c3.size)
        clear c3 b8
        go_wp2
        go_ret
        exact ⟨rfl, c8⟩
end Go.Proofs.Ytjjdckbdjmbndaa
