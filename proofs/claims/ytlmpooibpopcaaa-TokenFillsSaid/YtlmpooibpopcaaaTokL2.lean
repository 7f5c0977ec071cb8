/- TokenFills. -/
import Derived.Test.YtlmpooibpopcaaaTokJ
namespace Go.Proofs.Ytlmpooibpopcaaa
set_option linter.unusedSimpArgs false
set_option linter.unusedVariables false
open Go.RowKit Go.Shelf
attribute [local go_sem] Oper.semAt_some

def nxS (s : Nat) : Nat := atN (lenL ++ [259]) (s - 257)
def nxD (s : Nat) : Nat := atN (disL ++ [32769]) s
theorem fillL (s : Nat) (h1 : 257 ≤ s) (h2 : s < 285) : ∃ a b c : Nat, lofT (s : Int) = ((a : Int), (b : Int), 0) ∧ nxS s = a ∧ nxS (s + 1) = c ∧ a + 2 ^ b = c ∧ c ≤ 259 ∧ b ≤ 5 := by
  have h : ∀ x : Fin 28, lofT ((x.val + 257 : Nat) : Int) = ((nxS (x.val + 257) : Int), (atN lenB x.val : Int), 0) ∧ nxS (x.val + 257) + 2 ^ atN lenB x.val = nxS (x.val + 257 + 1) ∧ nxS (x.val + 257 + 1) ≤ 259 ∧ atN lenB x.val ≤ 5 := by decide +kernel
  obtain ⟨x, rfl⟩ : ∃ x, s = x + 257 := ⟨s - 257, by omega⟩
  obtain ⟨g1, g2, g3, g4⟩ := h ⟨x, by omega⟩
  exact ⟨_, _, _, g1, rfl, rfl, g2, g3, g4⟩
theorem fillD (s : Nat) (h2 : s < 30) : ∃ a b c : Nat, dofT (s : Int) = ((a : Int), (b : Int), 0) ∧ nxD s = a ∧ nxD (s + 1) = c ∧ a + 2 ^ b = c ∧ c ≤ 32769 ∧ b ≤ 13 := by
  have h : ∀ x : Fin 30, dofT (x.val : Int) = ((nxD x.val : Int), (atN disB x.val : Int), 0) ∧ nxD x.val + 2 ^ atN disB x.val = nxD (x.val + 1) ∧ nxD (x.val + 1) ≤ 32769 ∧ atN disB x.val ≤ 13 := by decide +kernel
  obtain ⟨g1, g2, g3, g4⟩ := h ⟨s, h2⟩
  exact ⟨_, _, _, g1, rfl, rfl, g2, g3, g4⟩

set_option maxRecDepth 100000 in
set_option maxHeartbeats 4000000 in
theorem tokenFills_law (w : World) :
    Calls Try.prog 8 #[] w fun e w' => e = .returned (.bool true) ∧ Below w.heap.size w w' := by
  go_enter Try.func8, Try.ntmps8
  go_wp2_with fail
  go_loopg [1, 2] 28 (fun k nx i wr => ∃ (s q : Nat), 257 ≤ s ∧ s ≤ 285 ∧ k = 285 - s ∧ i = .int .i64 s ∧ nx = .int .i64 q ∧ Hid (nxS s = q) ∧ Below w.heap.size w wr)
  case atStart => exact ⟨257, 3, by decide, by decide, rfl, rfl, rfl, Lib.hid rfl, Below.refl _ _⟩
  case round =>
    obtain ⟨s, q, hs1, hs2, rfl, rfl, rfl, hq, hb⟩ := hrel
    rename World => wr
    by_cases hlt : s < 285
    · obtain ⟨a, b, c, g1, g2, g3, g4, g5, g6⟩ := fillL s hs1 hlt
      obtain rfl : q = a := by rw [← hq.out]; exact g2
      have hpw : (2 : Int) ^ b = ((2 ^ b : Nat) : Int) := by simp
      obtain ⟨pw, hpe⟩ : ∃ pw, 2 ^ b = pw := ⟨_, rfl⟩
      rw [hpe] at hpw g4
      clear hpe
      have G3 := Lib.hid g3; clear g3 g2
      have G1 := Lib.hid g1; clear g1
      have w1 : IntKind.i64.wrap (pw : Int) = (pw : Int) := IntWalk.i64_in _ (by omega)
      have hq64 : (b : Int) ≤ 64 := by omega
      go_wp2_with fail
      refine (lengthOf_law wr s).mono ?_
      rintro e w2 ⟨rfl, b2⟩
      rw [G1.out]
      simp only [q3]
      have hb2 := hb.trans (b2.mono hb.size)
      go_wp2_with fail
      go_roundg (285 - (s + 1))
      case measure => omega
      case rel => exact ⟨s + 1, c, by omega, by omega, rfl, by simp, by rw [← g4]; simp, G3, hb2⟩
    · obtain rfl : s = 285 := by omega
      obtain rfl : q = 259 := by rw [← hq.out]; rfl
      clear hq
      go_wp2_with fail
      refine (lengthOf_law wr 285).mono ?_
      rintro e w2 ⟨rfl, b2⟩
      rw [show q3 (lofT 285) = .tuple #[.int .i64 258, .int .i64 0, .int .i64 0] from rfl]
      have hb2 := hb.trans (b2.mono hb.size)
      clear hb b2
      go_wp2_with fail
      go_loopg [1, 9] 30 (fun k nx i wr => ∃ (s q : Nat), s ≤ 30 ∧ k = 30 - s ∧ i = .int .i64 s ∧ nx = .int .i64 q ∧ Hid (nxD s = q) ∧ Below w.heap.size w wr)
      case atStart => exact ⟨0, 1, by decide, rfl, rfl, rfl, Lib.hid rfl, hb2⟩
      case round =>
        obtain ⟨s, q, hs2, rfl, rfl, rfl, hq, hb⟩ := hrel
        rename World => wq
        by_cases hlt : s < 30
        · obtain ⟨a, b, c, g1, g2, g3, g4, g5, g6⟩ := fillD s hlt
          obtain rfl : q = a := by rw [← hq.out]; exact g2
          have hpw : (2 : Int) ^ b = ((2 ^ b : Nat) : Int) := by simp
          obtain ⟨pw, hpe⟩ : ∃ pw, 2 ^ b = pw := ⟨_, rfl⟩
          rw [hpe] at hpw g4
          clear hpe
          have G3 := Lib.hid g3; clear g3 g2
          have G1 := Lib.hid g1; clear g1
          have w1 : IntKind.i64.wrap (pw : Int) = (pw : Int) := IntWalk.i64_in _ (by omega)
          have hq64 : (b : Int) ≤ 64 := by omega
          go_wp2_with fail
          refine (distanceOf_law wq s).mono ?_
          rintro e w3 ⟨rfl, b3⟩
          rw [G1.out]
          simp only [q3]
          have hb3 := hb.trans (b3.mono hb.size)
          go_wp2_with fail
          go_roundg (30 - (s + 1))
          case measure => omega
          case rel => exact ⟨s + 1, c, by omega, rfl, by simp, by rw [← g4]; simp, G3, hb3⟩
        · obtain rfl : s = 30 := by omega
          obtain rfl : q = 32769 := by rw [← hq.out]; rfl
          clear hq
          go_wp2_with fail
          refine (says_any wq).mono ?_
          rintro e w4 ⟨rfl, b4⟩
          go_wp2_with fail
          go_ret
          exact ⟨rfl, hb.trans (b4.mono hb.size)⟩
end Go.Proofs.Ytlmpooibpopcaaa
