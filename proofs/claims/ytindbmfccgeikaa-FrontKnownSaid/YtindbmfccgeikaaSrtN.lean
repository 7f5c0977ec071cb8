/- The library's sort at uint8: lines of a worked proof (So_math_bits_LenIn.lean), turned. -/
import Derived.Test.YtindbmfccgeikaaSrtN64
import Derived.Ground.So_math_bits_Len
import Derived.Sort.Row
namespace Go.Proofs.Ytindbmfccgeikaa
set_option linter.unusedSimpArgs false
set_option linter.unusedVariables false
open Go.RowKit Go.Sort
set_option maxHeartbeats 32000000 in
set_option maxRecDepth 1000000 in
theorem srt_bits_Len (x : Int) (w : World) (h0 : 0 ≤ x) (h1 : x ≤ 18446744073709551615) :
    Calls Try.prog 36 #[.int .u64 x] w fun e w' => e = .returned (.int .i64 (Lib.bitLen x.toNat)) ∧ w' = w := by
  go_enter Try.func36, Try.ntmps36
  go_wp2_with (go_at_call 50; refine (srt_bits_Len64 x _ h0 h1).mono ?_; rintro e w' ⟨rfl, rfl⟩)
  go_ret
  exact ⟨rfl, rfl⟩
end Go.Proofs.Ytindbmfccgeikaa
