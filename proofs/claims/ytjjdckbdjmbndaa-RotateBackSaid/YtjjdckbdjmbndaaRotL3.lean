/- The law RotateBack, walked. -/
import Derived.Test.YtjjdckbdjmbndaaRotD
namespace Go.Proofs.Ytjjdckbdjmbndaa
set_option linter.unusedSimpArgs false
set_option linter.unusedVariables false
open Go.RowKit

set_option maxRecDepth 100000 in
set_option maxHeartbeats 2000000 in
theorem rotateBack_law (w : World) (ad : Option Addr) (n cap : Nat) (b : List UInt8) (hb : Rd w 1 ad n cap (B8 b)) :
    Calls Try.prog 5 #[.slice ad n cap] w fun e w' => e = .returned (.bool true) ∧ Below w.heap.size w w' := by
  have hl := hb.len8
  have HL := Lib.hid hl; clear hl
  by_cases hn : 3000 < n
  · go_enter Try.func5, Try.ntmps5
    go_wp2
    go_ret
    exact ⟨rfl, Below.refl _ _⟩
  · go_enter Try.func5, Try.ntmps5
    go_wp2_with fail
    refine (turn_law _ _ _ _ b hb (by omega)).mono ?_
    rintro e w2 ⟨a2, k2, o2, rfl, ord2, own2, c2⟩
    by_cases hn0 : n = 0
    · subst hn0
      have hz : zeroP o2 0 = 0 := rfl
      rw [hz]
      go_wp2_with fail
      refine (back_out _ _ _ _ _ own2.rd (by omega) 0 (by omega)).mono ?_
      rintro e w3 ⟨rfl, b3⟩
      have c3 := c2.trans (b3.mono c2.size)
      clear c2 b3 own2 ord2 hz
      go_wp2_with fail
      refine (turns_any _).mono ?_
      rintro e w8 ⟨rfl, b8⟩
      have c8 := c3.trans (b8.mono c3.size)
      clear c3 b8
      go_wp2
      go_ret
      exact ⟨rfl, c8⟩
    · obtain ⟨z1, z2⟩ := zero_at ord2 (by rw [HL.out]; omega)
      have hbt := back_turn ord2 (by rw [HL.out]; omega)
      rw [HL.out] at z1 hbt
      clear z2
      have HBT := Lib.hid hbt; clear hbt
      generalize hz : zeroP o2 n = z at *
      clear hz
      have hnz : ((n : Int) == 0) = false := by rw [beq_eq_false_iff_ne]; omega
      go_wp2_with fail
      refine (back_in _ _ _ _ _ own2.rd (by omega) z z1).mono ?_
      rintro e w3 ⟨a3, k3, rfl, own3, b3⟩
      rw [HBT.out] at own3
      have c3 := c2.trans (b3.mono c2.size)
      have s1 := rstr own3.rd
      have s2 := rstr (hb.below c3)
      clear c2 b3 own2 ord2 own3
      go_wp2_with fail
      refine (turns_any _).mono ?_
      rintro e w8 ⟨rfl, b8⟩
      have c8 := c3.trans (b8.mono c3.size)
      clear c3 b8
      go_wp2
      go_ret
      exact ⟨rfl, c8⟩
end Go.Proofs.Ytjjdckbdjmbndaa
