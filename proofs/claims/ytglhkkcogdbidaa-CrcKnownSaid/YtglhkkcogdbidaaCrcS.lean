/- The closed examples of layer 3. -/
import Derived.Test.YtglhkkcogdbidaaCrcR
namespace Go.Proofs.Ytglhkkcogdbidaa
set_option linter.unusedSimpArgs false
set_option linter.unusedVariables false
open Go.RowKit M

theorem elB : ElTy Try.prog 22 5 (.int .u8 0) 1 1 := ⟨Try.underlying22, info_parts (by kernel_rfl), rfl, by decide⟩

theorem low9 : (lowS [49, 50, 51, 52, 53, 54, 55, 56, 57]).toNat = 3421780262 := by decide +kernel
theorem high9 : (highS [49, 50, 51, 52, 53, 54, 55, 56, 57]).toNat = 4236843288 := by decide +kernel

/-- a literal row of bytes, handed on -/
theorem Rd.lit8 (w : World) (e : Nat) (fr : Nat × Nat) (xs : List UInt8) (hn : xs.length ≤ maxLen) : Rd (w.alloc (.cells (B8 xs).toArray e fr)) 1 (some ⟨w.heap.size, 0, none⟩) xs.length xs.length (B8 xs) :=
  Rd.rowM w e 1 xs.length fr (B8 xs) (by simp [B8_len]) hn (B8_one xs)

theorem low_lit (w : World) (fr : Nat × Nat) (xs : List UInt8) (hn : xs.length ≤ maxLen) (r : Nat) (hr : (lowS xs).toNat = r) :
    Calls Try.prog 10 #[.slice (some ⟨w.heap.size, 0, none⟩) xs.length xs.length] (w.alloc (.cells (B8 xs).toArray 5 fr)) fun e w' => e = .returned (.int .u32 (r : Int)) ∧ Below w.heap.size w w' :=
  (low_any _ _ _ _ xs (Rd.lit8 w _ fr xs hn)).mono fun e w' ⟨h1, h2⟩ => ⟨by rw [← hr]; exact h1, ((Below.refl _ _).alloc (Nat.le_refl _) _).trans (h2.mono (by simp))⟩
theorem high_lit (w : World) (fr : Nat × Nat) (xs : List UInt8) (hn : xs.length ≤ maxLen) (r : Nat) (hr : (highS xs).toNat = r) :
    Calls Try.prog 12 #[.slice (some ⟨w.heap.size, 0, none⟩) xs.length xs.length] (w.alloc (.cells (B8 xs).toArray 5 fr)) fun e w' => e = .returned (.int .u32 (r : Int)) ∧ Below w.heap.size w w' :=
  (high_any _ _ _ _ xs (Rd.lit8 w _ fr xs hn)).mono fun e w' ⟨h1, h2⟩ => ⟨by rw [← hr]; exact h1, ((Below.refl _ _).alloc (Nat.le_refl _) _).trans (h2.mono (by simp))⟩

set_option maxHeartbeats 400000 in
theorem sums_any (w : World) :
    Calls Try.prog 14 #[] w fun e w' => e = .returned (.bool true) ∧ Below w.heap.size w w' := by
  have kc := fun (w : World) (C : Array Value) (n c : Nat) => Lib.run_convert_bytes_const (P := Try.prog) w 22 5 C n c Try.underlying22 Try.underlying5
  go_enter Try.func14, Try.ntmps14
  go_wp2_with fail
  refine (low_lit w _ [49, 50, 51, 52, 53, 54, 55, 56, 57] (by decide) _ low9).mono ?_
  rintro e w1 ⟨rfl, hb1⟩
  go_wp2_with fail
  refine (high_lit w1 _ [49, 50, 51, 52, 53, 54, 55, 56, 57] (by decide) _ high9).mono ?_
  rintro e w2 ⟨rfl, hb2⟩
  go_wp2_with fail
  refine (fold_any 2147483649#32 1#32 _).mono ?_
  rintro e w3 ⟨rfl, rfl⟩
  have hf : (foldS 2147483649#32 1#32).toNat = 2 := by decide +kernel
  go_wp2
  go_ret
  exact ⟨rfl, hb1.trans (hb2.mono hb1.size)⟩
end Go.Proofs.Ytglhkkcogdbidaa
