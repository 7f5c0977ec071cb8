/- The law CrcSums, walked. -/
import Derived.Test.YtglhkkcogdbidaaCrcS
namespace Go.Proofs.Ytglhkkcogdbidaa
set_option linter.unusedSimpArgs false
set_option linter.unusedVariables false
open Go.RowKit M

set_option maxHeartbeats 400000 in
theorem crcSums_law (w : World) (ad : Option Addr) (n cap : Nat) (xs : List UInt8) (hb : Rd w 1 ad n cap (B8 xs)) :
    Calls Try.prog 3 #[.slice ad n cap] w fun e w' => e = .returned (.bool true) ∧ Below w.heap.size w w' := by
  by_cases hn : 20000 < n
  · go_enter Try.func3, Try.ntmps3
    go_wp2
    go_ret
    exact ⟨rfl, Below.refl _ _⟩
  · go_enter Try.func3, Try.ntmps3
    go_wp2_with (refine wpList_clone rfl _ _ _ rfl elB rfl rfl hb (by unfold maxLen; omega) (by omega) ?_; intro ai ci w1 hi hb1 hs1)
    have hr1 := hi.rd
    refine (low_any _ _ _ _ xs hr1).mono ?_
    rintro e w2 ⟨rfl, hb2⟩
    have hr2 := hr1.below hb2
    go_wp2_with fail
    refine (rlow_any _ _ _ _ xs (hb.below (hb1.trans (hb2.mono hb1.size)))).mono ?_
    rintro e w3 ⟨rfl, rfl⟩
    go_wp2_with fail
    refine (high_any _ _ _ _ xs hr2).mono ?_
    rintro e w3 ⟨rfl, hb3⟩
    have hr3 := hr2.below hb3
    have hq := hb.below (hb1.trans ((hb2.mono hb1.size).trans (hb3.mono (Nat.le_trans hb1.size hb2.size))))
    go_wp2_with fail
    refine (rhigh_any _ _ _ _ xs hq).mono ?_
    rintro e w4 ⟨rfl, rfl⟩
    have s1 := run_str (P := Try.prog) (dst := 9) Try.underlying22 Try.underlying5 Try.underlying9 hr3
    have s2 := run_str (P := Try.prog) (dst := 9) Try.underlying22 Try.underlying5 Try.underlying9 hq
    go_wp2_with fail
    refine (sums_any _).mono ?_
    rintro e w4 ⟨rfl, hb4⟩
    go_wp2
    go_ret
    have := hb1.size; have := hb2.size; have := hb3.size
    exact ⟨rfl, hb1.trans ((hb2.mono (by omega)).trans ((hb3.mono (by omega)).trans (hb4.mono (by omega))))⟩
end Go.Proofs.Ytglhkkcogdbidaa
