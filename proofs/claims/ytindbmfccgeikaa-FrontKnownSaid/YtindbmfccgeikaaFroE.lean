/- front.digits, front.Put. -/
import Derived.Test.YtindbmfccgeikaaFroD
import Derived.Test.YtindbmfccgeikaaNat
namespace Go.Proofs.Ytindbmfccgeikaa
set_option linter.unusedSimpArgs false
set_option linter.unusedVariables false
open Go.RowKit

theorem tI : ElTy Try.prog 23 3 (.int .i64 0) 1 8 := ⟨Try.underlying23, info_parts (by kernel_rfl), rfl, by decide⟩
theorem N64_snoc (xs : List Nat) (x : Nat) : N64 xs ++ [.int .i64 (x : Int)] = N64 (xs ++ [x]) := by simp [N64]
theorem N64_apps (xs ys : List Nat) : N64 xs ++ N64 ys = N64 (xs ++ ys) := by simp [N64]

/-- the digits of a run -/
def digL (n : Nat) : List Nat := if h : n = 0 then [] else (n - 1) % 2 :: digL ((n - 1) / 2)
termination_by n
decreasing_by omega
theorem digL_zero : digL 0 = [] := by rw [digL]; simp
theorem digL_pos (n : Nat) (h : 0 < n) : digL n = (n - 1) % 2 :: digL ((n - 1) / 2) := by rw [digL, dif_neg (by omega)]
theorem digL_len (n : Nat) : (digL n).length ≤ n := by
  induction n using Nat.strongRecOn with
  | ind n ih =>
    rcases Nat.eq_zero_or_pos n with h | h
    · rw [h, digL_zero]; exact Nat.le_refl _
    · rw [digL_pos n h, List.length_cons]
      have := ih ((n - 1) / 2) (by omega)
      omega

set_option maxRecDepth 100000 in
set_option maxHeartbeats 2000000 in
theorem digits_law (w : World) (n : Nat) (hn : n ≤ 1000000) :
    Calls Try.prog 19 #[.int .i64 (n : Int)] w fun e w' => ∃ a c, e = .returned (.slice a (digL n).length c) ∧ Own w' 3 1 w.heap.size a (digL n).length c (N64 (digL n)) ∧ Below w.heap.size w w' := by
  obtain ⟨Z, hZ⟩ : ∃ Z, digL n = Z := ⟨_, rfl⟩
  rw [hZ]
  have hZl := digL_len n
  rw [hZ] at hZl
  have HZ := Lib.hid hZ; clear hZ
  go_enter Try.func19, Try.ntmps19
  go_wp2_with fail
  go_loopg [0, 3] n (fun k v0 v3 wr => ∃ (m : Nat) (ts : List Nat) (a : Option Addr) (c : Nat), m ≤ k ∧ m + ts.length ≤ n ∧ v0 = .int .i64 (m : Int) ∧ v3 = .slice a ts.length c ∧ Hid (ts ++ digL m = Z) ∧ Below w.heap.size w wr ∧ Own wr 3 1 w.heap.size a ts.length c (N64 ts))
  case atStart => exact ⟨n, [], none, 0, Nat.le_refl _, by simp, rfl, rfl, Lib.hid (by rw [HZ.out]; rfl), Below.refl _ _, Own.nil _ _ _ _⟩
  case round =>
    obtain ⟨m, ts, a, c, hmk, hmt, rfl, rfl, hts, bw, ow⟩ := hrel
    rename World => wr
    by_cases hm : 0 < m
    · have hd := digL_pos m hm
      obtain ⟨x, hx⟩ : ∃ x, (m - 1) % 2 = x := ⟨_, rfl⟩
      obtain ⟨y, hy⟩ : ∃ y, (m - 1) / 2 = y := ⟨_, rfl⟩
      have hx2 : x < 2 := by omega
      have e1 : ((m : Int) - 1) % 2 = (x : Int) := by omega
      have e2 : ((m : Int) - 1 - (x : Int)) / 2 = (y : Int) := by omega
      have hm1 : (0 : Int) < (m : Int) := by omega
      have hy2 : y < m := by omega
      rw [hx, hy] at hd
      have HD := Lib.hid hd; clear hd hx hy
      go_wp2_with (refine wpList_push rfl _ _ _ rfl tI rfl rfl ow (ys := [.int .i64 (x : Int)]) rfl (by simp [Value.oneCell']) (by unfold maxLen; omega) (by omega) bw.size ?_; intro a4 c4 w4 o4 g4 n4)
      have b4 := Own.grown bw ow g4 bw.size (Nat.le_refl _)
      rw [N64_snoc] at o4
      go_roundg y
      case measure => omega
      case rel => exact ⟨y, ts ++ [x], a4, c4, Nat.le_refl _, by simp; omega, by rw [e2], by simp, Lib.hid (by rw [List.append_assoc, ← hts.out, HD.out]; rfl), b4, by simpa using o4⟩
    · obtain rfl : m = 0 := by omega
      have h2 := hts.out
      rw [digL_zero, List.append_nil] at h2
      subst h2
      go_wp2_with fail
      go_ret
      exact ⟨a, c, rfl, ow, bw⟩
end Go.Proofs.Ytindbmfccgeikaa
