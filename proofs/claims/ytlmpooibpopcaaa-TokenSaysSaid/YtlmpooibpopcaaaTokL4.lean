/- TokenSays. -/
import Derived.Test.YtlmpooibpopcaaaTokJ
namespace Go.Proofs.Ytlmpooibpopcaaa
set_option linter.unusedSimpArgs false
set_option linter.unusedVariables false
open Go.RowKit Go.Shelf
attribute [local go_sem] Oper.semAt_some

/-- the symbol of a length, as a number -/
def symL (n : Nat) : Nat := (lenT (n : Int)).1.toNat
theorem saysL (n : Nat) (h1 : 3 ≤ n) (h2 : n ≤ 258) : ∃ s b x a : Nat, lenT (n : Int) = ((s : Int), (b : Int), (x : Int), 0) ∧ lofT (s : Int) = ((a : Int), (b : Int), 0) ∧ x < 2 ^ b ∧ a + x = n ∧ symL n = s ∧ b ≤ 5 ∧ (n < 258 → symL n ≤ symL (n + 1)) ∧ 257 ≤ s ∧ s ≤ 285 := by
  have h : ∀ y : Fin 256, lenT ((y.val + 3 : Nat) : Int) = ((symL (y.val + 3) : Int), ((lofT (symL (y.val + 3) : Int)).2.1.toNat : Int), ((lenT ((y.val + 3 : Nat) : Int)).2.2.1.toNat : Int), 0) ∧
      lofT (symL (y.val + 3) : Int) = (((lofT (symL (y.val + 3) : Int)).1.toNat : Int), ((lofT (symL (y.val + 3) : Int)).2.1.toNat : Int), 0) ∧
      (lenT ((y.val + 3 : Nat) : Int)).2.2.1.toNat < 2 ^ (lofT (symL (y.val + 3) : Int)).2.1.toNat ∧ (lofT (symL (y.val + 3) : Int)).1.toNat + (lenT ((y.val + 3 : Nat) : Int)).2.2.1.toNat = y.val + 3 ∧
      (lofT (symL (y.val + 3) : Int)).2.1.toNat ≤ 5 ∧ (y.val < 255 → symL (y.val + 3) ≤ symL (y.val + 3 + 1)) ∧ 257 ≤ symL (y.val + 3) ∧ symL (y.val + 3) ≤ 285 := by decide +kernel
  obtain ⟨y, rfl⟩ : ∃ y, n = y + 3 := ⟨n - 3, by omega⟩
  obtain ⟨g1, g2, g3, g4, g5, g6, g7, g8⟩ := h ⟨y, by omega⟩
  exact ⟨_, _, _, _, g1, g2, g3, g4, rfl, g5, fun h => g6 (by show y < 255; omega), g7, g8⟩
theorem saysD (a : Nat) (h1 : 1 ≤ a) (h2 : a ≤ 32768) : ∃ s b x l : Nat, disT (a : Int) = ((s : Int), (b : Int), (x : Int), 0) ∧ dofT (s : Int) = ((l : Int), (b : Int), 0) ∧ x < 2 ^ b ∧ l + x = a ∧ b ≤ 13 ∧ AtP disL a s := by
  have hk := lastN_at disL a (by decide) (by show 1 ≤ a; exact h1)
  have hf : ∀ k : Fin 30, dofT (k.val : Int) = ((atN disL k.val : Int), (atN disB k.val : Int), 0) ∧ atN disB k.val ≤ 13 ∧ atN (disL ++ [32769]) (k.val + 1) = atN disL k.val + 2 ^ atN disB k.val ∧ (k.val + 1 < 30 → atN (disL ++ [32769]) (k.val + 1) = atN disL (k.val + 1)) ∧ (k.val = 29 → atN (disL ++ [32769]) (k.val + 1) = 32769) := by decide +kernel
  obtain ⟨g1, g2, g3, g4, g5⟩ := hf ⟨lastN disL a, hk.1⟩
  dsimp only at g1 g2 g3 g4 g5
  have hlt : a < atN (disL ++ [32769]) (lastN disL a + 1) := by
    by_cases hl : lastN disL a + 1 < 30
    · rw [g4 hl]; exact hk.2.2 hl
    · have : lastN disL a < 30 := hk.1
      rw [g5 (by omega)]; omega
  have hle := hk.2.1
  refine ⟨lastN disL a, atN disB (lastN disL a), a - atN disL (lastN disL a), atN disL (lastN disL a), ?_, g1, by omega, by omega, g2, hk⟩
  rw [disT, if_neg (by omega)]; rfl

set_option maxRecDepth 100000 in
set_option maxHeartbeats 4000000 in
theorem tokenSays_law (w : World) (d m : Nat) (hd : d < 65536) (hm : m < 65536) :
    Calls Try.prog 7 #[.int .u16 (d : Int), .int .u16 (m : Int)] w fun e w' => e = .returned (.bool true) ∧ Below w.heap.size w w' := by
  go_enter Try.func7, Try.ntmps7
  go_wp2_with fail
  go_loopg [5, 6] 256 (fun k was i wr => ∃ (n s : Nat), 3 ≤ n ∧ n ≤ 259 ∧ k = 259 - n ∧ i = .int .i64 n ∧ was = .int .i64 s ∧ Hid (n ≤ 258 → s ≤ symL n) ∧ s ≤ 285 ∧ Below w.heap.size w wr)
  case atStart => exact ⟨3, 0, by decide, by decide, rfl, rfl, rfl, Lib.hid (fun _ => Nat.zero_le _), by decide, Below.refl _ _⟩
  case round =>
    obtain ⟨n, s0, hn1, hn2, rfl, rfl, rfl, hs0, hs1, hb⟩ := hrel
    rename World => wr
    by_cases hlt : n ≤ 258
    · obtain ⟨s, b, x, a, g1, g2, g3, g4, g5, g6, g7, g8, g9⟩ := saysL n hn1 hlt
      have hws := hs0.out hlt
      rw [g5] at hws g7
      have hpw : (2 : Int) ^ b = ((2 ^ b : Nat) : Int) := by simp
      have hpl : 2 ^ b ≤ 2 ^ 5 := Nat.pow_le_pow_right (by decide) g6
      obtain ⟨pw, hpe⟩ : ∃ pw, 2 ^ b = pw := ⟨_, rfl⟩
      rw [hpe] at hpw g3 hpl
      clear hpe
      have w1 : IntKind.i64.wrap (pw : Int) = (pw : Int) := IntWalk.i64_in _ (by omega)
      have hq64 : (b : Int) ≤ 64 := by omega
      have hsum : (a : Int) + (x : Int) = (n : Int) := by omega
      have w2 : IntKind.i64.wrap (n : Int) = (n : Int) := IntWalk.i64_in _ (by omega)
      have hxp : (x : Int) < (pw : Int) := by omega
      have G1 := Lib.hid g1; clear g1
      have G2 := Lib.hid g2; clear g2
      have G7 := Lib.hid g7; clear g7
      clear g4 g5 hs0
      go_wp2_with fail
      refine (length_law wr n).mono ?_
      rintro e w2' ⟨rfl, b2⟩
      rw [G1.out]
      simp only [q4]
      have c2 := hb.trans (b2.mono hb.size)
      go_wp2_with fail
      refine (lengthOf_law w2' s).mono ?_
      rintro e w3 ⟨rfl, b3⟩
      rw [G2.out]
      simp only [q3]
      have c3 := c2.trans (b3.mono c2.size)
      clear b2 b3 c2 hb
      go_wp2_with fail
      go_roundg (259 - (n + 1))
      case measure => omega
      case rel => exact ⟨n + 1, s, by omega, by omega, rfl, by simp, rfl, Lib.hid (fun h => G7.out (by omega)), g9, c3⟩
    · obtain rfl : n = 259 := by omega
      clear hs0
      obtain ⟨A, hA⟩ : ∃ A, 1 + d % 32768 = A := ⟨_, rfl⟩
      have hA1 : 1 ≤ A := by omega
      have hA2 : A ≤ 32768 := by omega
      obtain ⟨C, hC⟩ : ∃ C, A + m % (32769 - A) = C := ⟨_, rfl⟩
      have hC0 : m % (32769 - A) < 32769 - A := Nat.mod_lt _ (by omega)
      have hC1 : A ≤ C := by omega
      have hC2 : C ≤ 32768 := by omega
      obtain ⟨s, b, x, l, g1, g2, g3, g4, g5, g6⟩ := saysD A hA1 hA2
      obtain ⟨s', b', x', l', r1, r2, r3, r4, r5, r6⟩ := saysD C (by omega) hC2
      have hss : s ≤ s' := g6.le disL_mono r6 hC1
      clear g6 r6
      have G1 := Lib.hid g1; clear g1
      have G2 := Lib.hid g2; clear g2
      have R1 := Lib.hid r1; clear r1 r2 r3 r4
      have E1 : (1 : Int) + (d : Int) % 32768 = (A : Int) := by omega
      have E2 : (32769 : Int) - (A : Int) = ((32769 - A : Nat) : Int) := by omega
      have E3 : (A : Int) + (m : Int) % ((32769 - A : Nat) : Int) = (C : Int) := by omega
      have E4 : ¬ ((32769 - A : Nat) : Int) = 0 := by omega
      go_wp2_with fail
      clear E1 E2 E3 E4 hC0 hC hA
      have hpw : (2 : Int) ^ b = ((2 ^ b : Nat) : Int) := by simp
      have hpl : 2 ^ b ≤ 2 ^ 13 := Nat.pow_le_pow_right (by decide) g5
      obtain ⟨pw, hpe⟩ : ∃ pw, 2 ^ b = pw := ⟨_, rfl⟩
      rw [hpe] at hpw g3 hpl
      clear hpe
      have w1 : IntKind.i64.wrap (pw : Int) = (pw : Int) := IntWalk.i64_in _ (by omega)
      have hq64 : (b : Int) ≤ 64 := by omega
      have hsum : (l : Int) + (x : Int) = (A : Int) := by omega
      have w2 : IntKind.i64.wrap (A : Int) = (A : Int) := IntWalk.i64_in _ (by omega)
      have hxp : (x : Int) < (pw : Int) := by omega
      refine (distance_law wr A).mono ?_
      rintro e w3 ⟨rfl, b3⟩
      rw [G1.out]
      simp only [q4]
      have c3 := hb.trans (b3.mono hb.size)
      go_wp2_with fail
      refine (distanceOf_law w3 s).mono ?_
      rintro e w4 ⟨rfl, b4⟩
      rw [G2.out]
      simp only [q3]
      have c4 := c3.trans (b4.mono c3.size)
      go_wp2_with fail
      refine (distance_law w4 C).mono ?_
      rintro e w5 ⟨rfl, b5⟩
      rw [R1.out]
      simp only [q4]
      have c5 := c4.trans (b5.mono c4.size)
      clear b3 b4 b5 c3 c4 hb
      go_wp2_with fail
      refine (says_any w5).mono ?_
      rintro e w6 ⟨rfl, b6⟩
      go_wp2_with fail
      go_ret
      exact ⟨rfl, c5.trans (b6.mono c5.size)⟩
end Go.Proofs.Ytlmpooibpopcaaa
