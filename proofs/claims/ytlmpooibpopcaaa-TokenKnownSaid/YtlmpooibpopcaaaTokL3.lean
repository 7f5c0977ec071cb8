/- TokenKnown. -/
import Derived.Test.YtlmpooibpopcaaaTokJ
namespace Go.Proofs.Ytlmpooibpopcaaa
set_option linter.unusedSimpArgs false
set_option linter.unusedVariables false
open Go.RowKit Go.Shelf
attribute [local go_sem] Oper.semAt_some

def badL : List Tok := [⟨2, 1, 0⟩, ⟨259, 1, 0⟩, ⟨3, 0, 0⟩, ⟨3, 32769, 0⟩, ⟨0, 1, 0⟩, ⟨3, 1, 1⟩, ⟨-1, 1, 0⟩, ⟨3, -1, 0⟩]
theorem bad_all : ∀ j : Fin 8, ∀ t, badL[j.val]? = some t → mayB t = false := by
  intro j
  have : ∀ j : Fin 8, (badL[j.val]?).all (fun t => !mayB t) = true := by decide +kernel
  intro t ht
  have h := this j
  rw [ht] at h
  simpa using h
theorem bad_exp (t : Tok) (h : mayB t = false) : expand [⟨0, 0, 1⟩, t] = ([], 5) := by
  unfold expand
  rw [if_pos (by simp [h])]
theorem long_exp : expand [⟨0, 0, 7⟩, ⟨258, 1, 0⟩] = (List.replicate 259 7, 0) := by decide +kernel

set_option maxRecDepth 100000 in
set_option maxHeartbeats 4000000 in
theorem tokenKnown_law (w : World) :
    Calls Try.prog 5 #[] w fun e w' => e = .returned (.bool true) ∧ Below w.heap.size w w' := by
  go_enter Try.func5, Try.ntmps5
  go_wp2_with fail
  refine (length_law w 12).mono ?_
  rintro e w1 ⟨rfl, b1⟩
  rw [show q4 (lenT 12) = .tuple #[.int .i64 265, .int .i64 1, .int .i64 1, .int .i64 0] from rfl]
  go_wp2_with fail
  refine (length_law w1 258).mono ?_
  rintro e w2 ⟨rfl, b2⟩
  rw [show q4 (lenT 258) = .tuple #[.int .i64 285, .int .i64 0, .int .i64 0, .int .i64 0] from rfl]
  have c2 := b1.trans (b2.mono b1.size)
  go_wp2_with fail
  refine (distance_law w2 32768).mono ?_
  rintro e w3 ⟨rfl, b3⟩
  rw [show q4 (disT 32768) = .tuple #[.int .i64 29, .int .i64 13, .int .i64 8191, .int .i64 0] by rw [show disT 32768 = (29, 13, 8191, 0) by decide +kernel]; rfl]
  have c3 := c2.trans (b3.mono c2.size)
  go_wp2_with fail
  refine (length_law w3 2).mono ?_
  rintro e w4 ⟨rfl, b4⟩
  rw [show q4 (lenT 2) = .tuple #[.int .i64 0, .int .i64 0, .int .i64 0, .int .i64 5] from rfl]
  have c4 := c3.trans (b4.mono c3.size)
  go_wp2_with fail
  refine (length_law w4 259).mono ?_
  rintro e w5 ⟨rfl, b5⟩
  rw [show q4 (lenT 259) = .tuple #[.int .i64 0, .int .i64 0, .int .i64 0, .int .i64 5] from rfl]
  have c5 := c4.trans (b5.mono c4.size)
  go_wp2_with fail
  refine (distance_law w5 0).mono ?_
  rintro e w6 ⟨rfl, b6⟩
  rw [show q4 (disT 0) = .tuple #[.int .i64 0, .int .i64 0, .int .i64 0, .int .i64 5] from rfl]
  have c6 := c5.trans (b6.mono c5.size)
  go_wp2_with fail
  refine (distance_law w6 32769).mono ?_
  rintro e w7 ⟨rfl, b7⟩
  rw [show q4 (disT 32769) = .tuple #[.int .i64 0, .int .i64 0, .int .i64 0, .int .i64 5] from rfl]
  have c7 := c6.trans (b7.mono c6.size)
  clear c6 c5 c4 c3 c2 b1 b2 b3 b4 b5 b6 b7
  go_wp2_with fail
  have hR : Rd (w7.alloc (.cells (T3 badL).toArray 28)) 3 (some ⟨w7.heap.size, 0, none⟩) 8 8 (T3 badL) := Rd.lit3 w7 (0, 0) badL 8 rfl (by decide)
  have c8 := c7.alloc c7.size (.cells (T3 badL).toArray 28)
  change Rd (w7.alloc (.cells #[.int .i64 2, .int .i64 1, .int .u8 0, .int .i64 259, .int .i64 1, .int .u8 0, .int .i64 3, .int .i64 0, .int .u8 0, .int .i64 3, .int .i64 32769, .int .u8 0, .int .i64 0, .int .i64 1, .int .u8 0, .int .i64 3, .int .i64 1, .int .u8 1, .int .i64 (-1), .int .i64 1, .int .u8 0, .int .i64 3, .int .i64 (-1), .int .u8 0] 28)) 3 _ _ _ _ at hR
  change Below _ _ (w7.alloc (.cells #[.int .i64 2, .int .i64 1, .int .u8 0, .int .i64 259, .int .i64 1, .int .u8 0, .int .i64 3, .int .i64 0, .int .u8 0, .int .i64 3, .int .i64 32769, .int .u8 0, .int .i64 0, .int .i64 1, .int .u8 0, .int .i64 3, .int .i64 1, .int .u8 1, .int .i64 (-1), .int .i64 1, .int .u8 0, .int .i64 3, .int .i64 (-1), .int .u8 0] 28)) at c8
  generalize (w7.alloc (.cells #[.int .i64 2, .int .i64 1, .int .u8 0, .int .i64 259, .int .i64 1, .int .u8 0, .int .i64 3, .int .i64 0, .int .u8 0, .int .i64 3, .int .i64 32769, .int .u8 0, .int .i64 0, .int .i64 1, .int .u8 0, .int .i64 3, .int .i64 1, .int .u8 1, .int .i64 (-1), .int .i64 1, .int .u8 0, .int .i64 3, .int .i64 (-1), .int .u8 0] 28)) = w8 at *
  generalize w7.heap.size = Z at *
  clear c7
  go_loopg [30] 8 (fun k i wr => ∃ (j : Nat), j ≤ 8 ∧ k = 8 - j ∧ i = .int .i64 j ∧ Below w.heap.size w wr ∧ Below w8.heap.size w8 wr)
  case atStart => exact ⟨0, by decide, rfl, rfl, c8, Below.refl _ _⟩
  case round =>
    obtain ⟨j, hj, rfl, rfl, hb, hb8⟩ := hrel
    rename World => wr
    by_cases hlt : j < 8
    · obtain ⟨t, ht, nx, e0, e1, e2⟩ := (hR.below hb8).tok hlt
      have hbad := bad_all ⟨j, hlt⟩ t ht
      obtain ⟨l, d, b⟩ := t
      rw [sAt_lit] at e0 e1 e2
      simp only at e0 e1 e2
      have hex := bad_exp _ hbad
      have HEX := Lib.hid hex
      clear hex hbad ht nx
      go_wp2_with fail
      refine (expand_known wr _ [⟨0, 0, 1⟩, ⟨l, d, b⟩] _ rfl 2 rfl (by decide) _ 0 _ HEX.out rfl).mono ?_
      rintro e w9 ⟨a, c, rfl, o9, b9⟩
      have c9 := hb.trans (b9.mono hb.size)
      have d9 := hb8.trans (b9.mono hb8.size)
      clear o9
      go_wp2_with fail
      go_roundg (8 - (j + 1))
      case measure => omega
      case rel => exact ⟨j + 1, by omega, rfl, by simp, c9, d9⟩
    · obtain rfl : j = 8 := by omega
      clear hb8 hR
      go_wp2_with fail
      refine (expand_known wr _ [⟨3, 1, 0⟩] _ rfl 1 rfl (by decide) [] 0 2 (by decide +kernel) rfl).mono ?_
      rintro e w9 ⟨a9, k9, rfl, o9, b9⟩
      have c9 := hb.trans (b9.mono hb.size)
      go_wp2_with fail
      refine (expand_known w9 _ [⟨3, 1, 0⟩, ⟨2, 1, 0⟩] _ rfl 2 rfl (by decide) [] 0 5 (by decide +kernel) rfl).mono ?_
      rintro e w10 ⟨a10, k10, rfl, o10, b10⟩
      have c10 := c9.trans (b10.mono c9.size)
      go_wp2_with fail
      refine (expand_known w10 _ [⟨0, 0, 7⟩, ⟨258, 1, 0⟩] _ rfl 2 rfl (by decide) _ 259 0 long_exp (by decide +kernel)).mono ?_
      rintro e w11 ⟨a11, k11, rfl, o11, b11⟩
      have c11 := c10.trans (b11.mono c10.size)
      obtain ⟨ne, ce⟩ := o11.rd.get8 (k := 258) (by decide)
      rw [show at8 (List.replicate 259 7) 258 = 7 by decide +kernel] at ce
      clear o9 o10 o11 b9 b10 b11 c9 c10 hb c8
      go_wp2_with fail
      refine (says_any w11).mono ?_
      rintro e w12 ⟨rfl, b12⟩
      go_wp2_with fail
      go_ret
      exact ⟨rfl, c11.trans (b12.mono c11.size)⟩
end Go.Proofs.Ytlmpooibpopcaaa
