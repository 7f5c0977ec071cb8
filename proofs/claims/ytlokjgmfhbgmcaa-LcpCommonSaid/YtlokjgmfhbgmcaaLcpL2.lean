/- The law LcpCommon, walked. -/
import Derived.Test.YtlokjgmfhbgmcaaLcpE
namespace Go.Proofs.Ytlokjgmfhbgmcaa
set_option linter.unusedSimpArgs false
set_option linter.unusedVariables false
open Go.RowKit

set_option maxRecDepth 100000 in
set_option maxHeartbeats 2000000 in
theorem lcpCommon_law (w : World) (ad : Option Addr) (n cap : Nat) (xs : List Int) (hx : Rd w 1 ad n cap (I64 xs)) (hg : ∀ z ∈ xs, -9223372036854775808 ≤ z ∧ z ≤ 9223372036854775807) (p : Int) (hp : (-9223372036854775808 : Int) ≤ p ∧ p ≤ 9223372036854775807) (q : Int) (hq : (-9223372036854775808 : Int) ≤ q ∧ q ≤ 9223372036854775807) :
    Calls Try.prog 4 #[.slice ad n cap, .int .i64 p, .int .i64 q] w fun e w' => e = .returned (.bool true) ∧ Below w.heap.size w w' := by
  clear hg hp hq
  by_cases hn : 300 < n
  · go_enter Try.func4, Try.ntmps4
    go_wp2
    go_ret
    exact ⟨rfl, Below.refl _ _⟩
  go_enter Try.func4, Try.ntmps4
  go_wp2_with fail
  refine (common_law _ _ _ _ xs hx (by omega) p q).mono ?_
  rintro e w1 ⟨rfl, b1⟩
  have hx1 := hx.below b1
  generalize hr : cmmI xs p q = r
  obtain ⟨r1, r2⟩ := r
  have HR := Lib.hid hr; clear hr
  dsimp only
  go_wp2_with fail
  refine (refLeast_law _ _ _ _ xs hx1 (by omega) p q).mono ?_
  rintro e w2 ⟨rfl, b2⟩
  have c2 := b1.trans (b2.mono b1.size)
  rw [HR.out]
  clear hx1 b1 b2
  go_wp2_with fail
  refine (known_any _).mono ?_
  rintro e w10 ⟨rfl, b10⟩
  have c10 := c2.trans (b10.mono c2.size)
  clear c2 b10
  go_wp2_with fail
  go_ret
  exact ⟨rfl, c10⟩
end Go.Proofs.Ytlokjgmfhbgmcaa
