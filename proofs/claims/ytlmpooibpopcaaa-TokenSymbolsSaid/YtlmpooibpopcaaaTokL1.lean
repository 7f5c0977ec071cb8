/- TokenSymbols. -/
import Derived.Test.YtlmpooibpopcaaaTokJ
namespace Go.Proofs.Ytlmpooibpopcaaa
set_option linter.unusedSimpArgs false
set_option linter.unusedVariables false
open Go.RowKit Go.Shelf
attribute [local go_sem] Oper.semAt_some

theorem lof_at : ∀ x : Fin 29, lofT ((x.val : Int) + 257) = ((atN lens29 x.val : Int), (bitL (x.val + 257) : Int), 0) := by decide +kernel
theorem dof_at : ∀ x : Fin 30, dofT (x.val : Int) = ((atN disL x.val : Int), (bitD x.val : Int), 0) := by decide +kernel
theorem lengthBitsAt (w : World) (x : Nat) (hx : x < 29) : Calls Try.prog 18 #[.int .i64 ((x : Int) + 257)] w fun e w' => e = .returned (.int .i64 (bitL (x + 257) : Int)) ∧ w = w' := by
  have := lengthBits_law w (x + 257) (by omega)
  rwa [show ((x + 257 : Nat) : Int) = (x : Int) + 257 by omega] at this

set_option maxRecDepth 100000 in
set_option maxHeartbeats 4000000 in
theorem tokenSymbols_law (w : World) (n d s : Int) :
    Calls Try.prog 6 #[.int .i64 n, .int .i64 d, .int .i64 s] w fun e w' => e = .returned (.bool true) ∧ Below w.heap.size w w' := by
  go_enter Try.func6, Try.ntmps6
  go_wp2_with fail
  refine (length_law w n).mono ?_
  rintro e w1 ⟨rfl, b1⟩
  obtain ⟨⟨l1, l2, l3, l4⟩, hl⟩ : ∃ q, lenT n = q := ⟨_, rfl⟩
  have HL := Lib.hid hl
  rw [hl]
  clear hl
  simp only [q4]
  go_wp2_with fail
  refine (refLength_law w1 n).mono ?_
  rintro e w2 ⟨rfl, b2⟩
  rw [HL.out]
  simp only [q4]
  have c2 := b1.trans (b2.mono b1.size)
  go_wp2_with fail
  refine (distance_law w2 d).mono ?_
  rintro e w3 ⟨rfl, b3⟩
  obtain ⟨⟨d1, d2, d3, d4⟩, hd⟩ : ∃ q, disT d = q := ⟨_, rfl⟩
  have HD := Lib.hid hd
  rw [hd]
  clear hd
  simp only [q4]
  have c3 := c2.trans (b3.mono c2.size)
  go_wp2_with fail
  refine (refDistance_law w3 d).mono ?_
  rintro e w4 ⟨rfl, b4⟩
  rw [HD.out]
  simp only [q4]
  have c4 := c3.trans (b4.mono c3.size)
  clear HL HD b1 b2 b3 b4 c2 c3
  go_wp2_with fail
  refine (lengthOf_law w4 s).mono ?_
  rintro e w5 ⟨rfl, b5⟩
  have c5 := c4.trans (b5.mono c4.size)
  clear c4 b5
  by_cases hs : s < 257 ∨ 285 < s
  · rw [show q3 (lofT s) = .tuple #[.int .i64 0, .int .i64 0, .int .i64 5] by rw [lofT, if_pos hs]; rfl]
    by_cases hs1 : s < 257
    · by_cases hs2 : s < 0
      · clear hs
        go_wp2_with fail
        refine (distanceOf_law _ _).mono ?_
        rintro e w6 ⟨rfl, b6⟩
        rw [show q3 (dofT _) = .tuple #[.int .i64 0, .int .i64 0, .int .i64 5] by rw [dofT, if_pos (by omega)]; rfl]
        have c6 := c5.trans (b6.mono c5.size)
        go_wp2_with fail
        refine (says_any w6).mono ?_
        rintro e w7 ⟨rfl, b7⟩
        go_wp2_with fail
        go_ret
        exact ⟨rfl, c6.trans (b7.mono c6.size)⟩
      · by_cases hs3 : 30 ≤ s
        · clear hs
          go_wp2_with fail
          refine (distanceOf_law _ _).mono ?_
          rintro e w6 ⟨rfl, b6⟩
          rw [show q3 (dofT _) = .tuple #[.int .i64 0, .int .i64 0, .int .i64 5] by rw [dofT, if_pos (by omega)]; rfl]
          have c6 := c5.trans (b6.mono c5.size)
          go_wp2_with fail
          refine (says_any w6).mono ?_
          rintro e w7 ⟨rfl, b7⟩
          go_wp2_with fail
          go_ret
          exact ⟨rfl, c6.trans (b7.mono c6.size)⟩
        · obtain ⟨x, rfl⟩ : ∃ x : Nat, s = x := ⟨s.toNat, by omega⟩
          have hx : x < 30 := by omega
          clear hs
          go_wp2_with fail
          refine (distanceOf_law _ _).mono ?_
          rintro e w6 ⟨rfl, b6⟩
          have hq := dof_at ⟨x, hx⟩
          dsimp only at hq
          rw [hq]
          clear hq
          simp only [q3]
          have c6 := c5.trans (b6.mono c5.size)
          generalize hy : atN disL x = y
          have HY := Lib.hid hy; clear hy
          go_wp2_with fail
          refine (distances_own w6).mono ?_
          rintro e w7 ⟨Z, rfl, o7, b7⟩
          obtain ⟨k7, f7⟩ := o7.getN hx
          rw [HY.out] at k7
          have c7 := c6.trans (b7.mono c6.size)
          clear o7
          go_wp2_with fail
          refine (distanceBits_law _ x (by omega)).mono ?_
          rintro e w8 ⟨rfl, rfl⟩
          go_wp2_with fail
          refine (says_any w7).mono ?_
          rintro e w9 ⟨rfl, b9⟩
          go_wp2_with fail
          go_ret
          exact ⟨rfl, c7.trans (b9.mono c7.size)⟩
    · have hs4 : 285 < s := by omega
      clear hs
      go_wp2_with fail
      refine (distanceOf_law _ _).mono ?_
      rintro e w6 ⟨rfl, b6⟩
      rw [show q3 (dofT _) = .tuple #[.int .i64 0, .int .i64 0, .int .i64 5] by rw [dofT, if_pos (by omega)]; rfl]
      have c6 := c5.trans (b6.mono c5.size)
      go_wp2_with fail
      refine (says_any w6).mono ?_
      rintro e w7 ⟨rfl, b7⟩
      go_wp2_with fail
      go_ret
      exact ⟨rfl, c6.trans (b7.mono c6.size)⟩
  · obtain ⟨x, rfl⟩ : ∃ x : Nat, s = x + 257 := ⟨(s - 257).toNat, by omega⟩
    have hx : x < 29 := by omega
    have hq := lof_at ⟨x, hx⟩
    dsimp only at hq
    rw [hq]
    clear hq
    simp only [q3]
    have hs1 : ¬ ((x : Int) + 257 < 257) := by omega
    have hs2 : ¬ (285 < (x : Int) + 257) := by omega
    clear hs
    generalize hy : atN lens29 x = y
    have HY := Lib.hid hy; clear hy
    go_wp2_with fail
    refine (lengths_own w5).mono ?_
    rintro e w7 ⟨Z, rfl, o7, b7⟩
    obtain ⟨k7, f7⟩ := o7.getN hx
    rw [HY.out] at k7
    have c7 := c5.trans (b7.mono c5.size)
    clear o7 c5 b7
    have c5 := c7; clear c7
    go_wp2_with fail
    refine (lengthBitsAt _ x hx).mono ?_
    rintro e w8 ⟨rfl, rfl⟩
    go_wp2_with fail
    refine (distanceOf_law _ _).mono ?_
    rintro e w6 ⟨rfl, b6⟩
    rw [show q3 (dofT _) = .tuple #[.int .i64 0, .int .i64 0, .int .i64 5] by rw [dofT, if_pos (by omega)]; rfl]
    have c6 := c5.trans (b6.mono c5.size)
    go_wp2_with fail
    refine (says_any w6).mono ?_
    rintro e w7 ⟨rfl, b7⟩
    go_wp2_with fail
    go_ret
    exact ⟨rfl, c6.trans (b7.mono c6.size)⟩
end Go.Proofs.Ytlmpooibpopcaaa
