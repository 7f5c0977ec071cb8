/- the document's Lengths, Distances, LengthBits, DistanceBits, last, Length, Distance. -/
import Derived.Test.YtlmpooibpopcaaaTokD
namespace Go.Proofs.Ytlmpooibpopcaaa
set_option linter.unusedSimpArgs false
set_option linter.unusedVariables false
open Go.RowKit Go.Shelf
attribute [local go_sem] Oper.semAt_some

def lens29 : List Nat := lenL ++ [258]
def bitL (s : Nat) : Nat := if s < 265 ∨ s = 285 then 0 else (s - 261) / 4
def bitD (s : Nat) : Nat := if s < 4 then 0 else (s - 2) / 2

theorem lengths_law (w : World) : Calls Try.prog 17 #[] w fun e w' => e = .returned (.slice (some ⟨w.heap.size, 0, none⟩) 29 29) ∧ w.alloc (.cells (N64 lens29).toArray 3) = w' := by
  go_enter Try.func17, Try.ntmps17
  go_wp2_with fail
  go_ret
  exact ⟨rfl, rfl⟩
theorem distances_law (w : World) : Calls Try.prog 20 #[] w fun e w' => e = .returned (.slice (some ⟨w.heap.size, 0, none⟩) 30 30) ∧ w.alloc (.cells (N64 disL).toArray 3) = w' := by
  go_enter Try.func20, Try.ntmps20
  go_wp2_with fail
  go_ret
  exact ⟨rfl, rfl⟩
theorem lengthBits_law (w : World) (s : Nat) (hs : s ≤ 1000) : Calls Try.prog 18 #[.int .i64 (s : Int)] w fun e w' => e = .returned (.int .i64 (bitL s : Int)) ∧ w = w' := by
  go_enter Try.func18, Try.ntmps18
  by_cases h : s < 265 ∨ s = 285
  · rw [bitL, if_pos h]
    by_cases h1 : s < 265
    · go_wp2_with fail
      go_ret
      exact ⟨rfl, rfl⟩
    · have h2 : s = 285 := by omega
      subst h2
      go_wp2_with fail
      go_ret
      exact ⟨rfl, rfl⟩
  · obtain ⟨x, rfl⟩ : ∃ x, s = x + 261 := ⟨s - 261, by omega⟩
    have h1 : ¬ ((x : Int) + 261 < 265) := by omega
    have h2 : ¬ ((x : Int) + 261 = 285) := by omega
    rw [bitL, if_neg h, Nat.add_sub_cancel]
    clear h
    go_wp2_with fail
    go_ret
    exact ⟨rfl, rfl⟩
theorem distanceBits_law (w : World) (s : Nat) (hs : s ≤ 1000) : Calls Try.prog 21 #[.int .i64 (s : Int)] w fun e w' => e = .returned (.int .i64 (bitD s : Int)) ∧ w = w' := by
  go_enter Try.func21, Try.ntmps21
  by_cases h : s < 4
  · rw [bitD, if_pos h]
    go_wp2_with fail
    go_ret
    exact ⟨rfl, rfl⟩
  · obtain ⟨x, rfl⟩ : ∃ x, s = x + 2 := ⟨s - 2, by omega⟩
    have h1 : ¬ ((x : Int) + 2 < 4) := by omega
    rw [bitD, if_neg h, Nat.add_sub_cancel]
    clear h
    go_wp2_with fail
    go_ret
    exact ⟨rfl, rfl⟩

set_option maxRecDepth 100000 in
set_option maxHeartbeats 2000000 in
theorem last_law (w : World) (ad : Option Addr) (n cap : Nat) (xs : List Nat) (hx : Rd w 1 ad n cap (N64 xs)) (hn : n ≤ 1000) (hn0 : 0 < n) (x : Nat) (hx0 : atN xs 0 ≤ x) :
    Calls Try.prog 29 #[.slice ad n cap, .int .i64 (x : Int)] w fun e w' => (∃ k : Nat, AtP xs x k ∧ e = .returned (.int .i64 (k : Int))) ∧ w = w' := by
  have hl := hx.lenN
  have HL := Lib.hid hl; clear hl
  go_enter Try.func29, Try.ntmps29
  go_wp2_with fail
  go_loopg [5] n (fun k i wr => ∃ j : Nat, j < n ∧ k = n - j ∧ i = .int .i64 j ∧ atN xs j ≤ x ∧ w = wr)
  case atStart => exact ⟨0, hn0, by simp, rfl, hx0, rfl⟩
  case round =>
    obtain ⟨j, hj, rfl, rfl, hjx, rfl⟩ := hrel
    by_cases hlt : j + 1 < n
    · obtain ⟨n1, c1⟩ := hx.getN hlt
      by_cases hle : atN xs (j + 1) ≤ x
      · have hle2 := Lib.hid hle
        generalize hy : atN xs (j + 1) = y at *
        have HY := Lib.hid hy; clear hy
        clear hjx
        go_wp2_with fail
        go_roundg (n - (j + 1))
        case measure => omega
        case rel => exact ⟨j + 1, hlt, rfl, by simp, by rw [HY.out]; exact hle2.out, rfl⟩
      · have hat : AtP xs x j := ⟨by rw [HL.out]; exact hj, hjx, fun _ => by omega⟩
        have HAT := Lib.hid hat; clear hat
        generalize atN xs (j + 1) = y at *
        clear hjx
        go_wp2_with fail
        go_ret
        exact ⟨⟨j, HAT.out, rfl⟩, rfl⟩
    · have hat : AtP xs x j := ⟨by rw [HL.out]; exact hj, hjx, fun h => by rw [HL.out] at h; omega⟩
      have HAT := Lib.hid hat; clear hat
      clear hjx
      go_wp2_with fail
      go_ret
      exact ⟨⟨j, HAT.out, rfl⟩, rfl⟩
end Go.Proofs.Ytlmpooibpopcaaa
