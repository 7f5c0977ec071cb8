/- The library's sort at uint8: lines of a worked proof (Walk0In.lean), turned. -/
import Derived.Test.YtindbmfccgeikaaRows
import Derived.Test.YtindbmfccgeikaaLib
import Derived.Sort.WalkA
import Derived.Sort.AtCall
namespace Go.Proofs.Ytindbmfccgeikaa
set_option linter.unusedSimpArgs false
set_option linter.unusedVariables false
open Go.RowKit Go.Sort
abbrev encB : Int → Value := fun x => Value.int .u8 x

set_option maxHeartbeats 1000000 in
theorem srt_cmp_isNaN (x : Int) (w : World) : Calls Try.prog 56 #[.int .u8 x] w fun e w' => e = .returned (.bool false) ∧ w' = w := by
  go_enter Try.func56, Try.ntmps56
  go_wp2
  go_ret
  exact ⟨by simp, rfl⟩

set_option maxHeartbeats 1000000 in
theorem srt_cmp_Less (x y : Int) (w : World) : Calls Try.prog 46 #[.int .u8 x, .int .u8 y] w fun e w' => e = .returned (.bool (Sort.ltInt x y)) ∧ w' = w := by
  go_enter Try.func46, Try.ntmps46
  go_wp2_with (go_at_call 56; refine (srt_cmp_isNaN _ _).mono ?_; rintro e w' ⟨rfl, rfl⟩)
  go_ret
  exact ⟨rfl, rfl⟩
end Go.Proofs.Ytindbmfccgeikaa
