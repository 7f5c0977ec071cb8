/- The law CrcFolds, walked. -/
import Derived.Test.YtglhkkcogdbidaaCrcS
namespace Go.Proofs.Ytglhkkcogdbidaa
set_option linter.unusedSimpArgs false
set_option linter.unusedVariables false
open Go.RowKit M
set_option maxHeartbeats 400000 in
theorem crcFolds_law (w : World) (a b : BitVec 32) :
    Calls Try.prog 4 #[.int .u32 (a.toNat : Int), .int .u32 (b.toNat : Int)] w fun e w' => e = .returned (.bool true) ∧ Below w.heap.size w w' := by
  go_enter Try.func4, Try.ntmps4
  go_wp2_with fail
  refine (fold_any a b _).mono ?_
  rintro e w1 ⟨rfl, rfl⟩
  go_wp2_with fail
  refine (rfold_any a b _).mono ?_
  rintro e w1 ⟨rfl, rfl⟩
  go_wp2_with fail
  refine (sums_any _).mono ?_
  rintro e w1 ⟨rfl, hb⟩
  go_wp2
  go_ret
  exact ⟨rfl, hb⟩
end Go.Proofs.Ytglhkkcogdbidaa
