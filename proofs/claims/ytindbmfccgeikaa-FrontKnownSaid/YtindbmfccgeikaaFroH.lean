/- pressworkref22.Same: the same numbers? -/
import Derived.Test.YtindbmfccgeikaaRows
import Derived.Test.YtindbmfccgeikaaLib
namespace Go.Proofs.Ytindbmfccgeikaa
set_option linter.unusedSimpArgs false
set_option linter.unusedVariables false
open Go.RowKit

theorem atI_ext {xs ys : List Int} (hl : xs.length = ys.length) (h : ∀ j, j < xs.length → atI xs j = atI ys j) : xs = ys := by
  apply List.ext_getElem hl
  intro i h1 h2
  have := h i h1
  simpa [atI, h1, h2] using this

set_option maxRecDepth 100000 in
set_option maxHeartbeats 2000000 in
theorem same_law (w : World) (ad bd : Option Addr) (n cap m bc : Nat) (xs ys : List Int) (hx : Rd w 1 ad n cap (I64 xs)) (hy : Rd w 1 bd m bc (I64 ys)) :
    Calls Try.prog 11 #[.slice ad n cap, .slice bd m bc] w fun e w' => e = .returned (.bool (decide (xs = ys))) ∧ Below w.heap.size w w' := by
  have hcap : n ≤ 9223372036854775807 := by have := hx.ncap; have := hx.capM; unfold maxLen at this; omega
  have hlx := hx.lenI
  have hly := hy.lenI
  have HX := Lib.hid hlx; clear hlx
  have HY := Lib.hid hly; clear hly
  go_enter Try.func11, Try.ntmps11
  by_cases hnm : n = m
  · subst hnm
    go_wp2_with fail
    go_loopg [5] n (fun k i wr => ∃ j : Nat, j ≤ n ∧ k = n - j ∧ i = .int .i64 j ∧ Below w.heap.size w wr ∧ Hid (∀ t, t < j → atI xs t = atI ys t))
    case atStart => exact ⟨0, Nat.zero_le _, by simp, rfl, Below.refl _ _, Lib.hid (fun t ht => by omega)⟩
    case round =>
      obtain ⟨j, hj, rfl, rfl, hb, hs⟩ := hrel
      by_cases hlt : j < n
      · obtain ⟨n1, c1⟩ := (hx.below hb).getI hlt
        obtain ⟨n2, c2⟩ := (hy.below hb).getI hlt
        obtain ⟨p, hp⟩ : ∃ p, atI xs j = p := ⟨_, rfl⟩
        obtain ⟨q, hq⟩ : ∃ q, atI ys j = q := ⟨_, rfl⟩
        rw [hp] at c1; rw [hq] at c2
        have HP := Lib.hid hp; clear hp
        have HQ := Lib.hid hq; clear hq
        go_upto_region 6 with fail
        refine region_still (by kernel_rfl) (by kernel_rfl) ?_
        by_cases hpq : p = q
        · subst hpq
          go_wp2_with (first | (refine still_wp rfl rfl ?_; intro _ _) | (refine wpStill_nil ?_))
          go_roundg (n - (j + 1))
          case measure => omega
          case rel => exact ⟨j + 1, by omega, rfl, by simp, hb.drew, Lib.hid (fun t ht => by
            by_cases h : t = j
            · rw [h, HP.out, HQ.out]
            · exact hs.out t (by omega))⟩
        · go_wp2_with (first | (refine still_wp rfl rfl ?_; intro _ _) | (refine wpStill_nil ?_))
          go_ret
          refine ⟨?_, hb.drew⟩
          have : xs ≠ ys := fun e => hpq (by rw [← HP.out, ← HQ.out, e])
          simp [this]
      · obtain rfl : j = n := by omega
        go_wp2_with fail
        go_ret
        refine ⟨?_, hb⟩
        have : xs = ys := atI_ext (by rw [HX.out, HY.out]) (by rw [HX.out]; exact hs.out)
        simp [this]
  · have hnm' : ¬ ((n : Int) = (m : Int)) := by omega
    go_wp2_with fail
    go_ret
    refine ⟨?_, Below.refl _ _⟩
    have : xs ≠ ys := fun e => hnm (by rw [← HX.out, ← HY.out, e])
    simp [this]
end Go.Proofs.Ytindbmfccgeikaa
