/- What the laws of near share: the known answers; near.Ahead and near.Behind by the document's. -/
import Derived.Test.YtkijfooijchilaaNearM
namespace Go.Proofs.Ytkijfooijchilaa
set_option linter.unusedSimpArgs false
set_option linter.unusedVariables false
open Go.RowKit

theorem ahead_any (w : World) (ad : Option Addr) (n cap : Nat) (zs : List Int) (hz : Rd w 1 ad n cap (I64 zs)) (hn : n ≤ 100000) :
    Calls Try.prog 10 #[.slice ad n cap] w fun e w' => ∃ g, e = .returned (.slice (some ⟨g, 0, none⟩) n n) ∧ Own w' 3 1 w.heap.size (some ⟨g, 0, none⟩) n n (I64 (refAhead zs zs.length)) ∧ Below w.heap.size w w' := by
  have := ahead_law w ad n cap zs hz hn
  rw [aheadL_eq] at this; exact this
theorem behind_any (w : World) (ad : Option Addr) (n cap : Nat) (zs : List Int) (hz : Rd w 1 ad n cap (I64 zs)) (hn : n ≤ 100000) :
    Calls Try.prog 12 #[.slice ad n cap] w fun e w' => ∃ g, e = .returned (.slice (some ⟨g, 0, none⟩) n n) ∧ Own w' 3 1 w.heap.size (some ⟨g, 0, none⟩) n n (I64 (refBehind zs zs.length)) ∧ Below w.heap.size w w' := by
  have := behind_law w ad n cap zs hz hn
  rw [behindL_eq] at this; exact this

/-- a row of numbers just laid -/
theorem Rd.lits (w : World) (e : Nat) (xs : List Int) (hl : xs.length ≤ maxLen) : Rd (w.alloc (.cells (I64 xs).toArray e)) 1 (some ⟨w.heap.size, 0, none⟩) xs.length xs.length (I64 xs) :=
  Rd.row w e 1 xs.length (I64 xs) (by rw [I64_len]; omega) hl (I64_one xs)

theorem k1 : refAhead [3, 1, 2, 1, 5] 5 = [-1, -1, 1, -1, 3] := by decide +kernel
theorem k2 : refBehind [3, 1, 2, 1, 5] 5 = [1, 5, 3, 5, 5] := by decide +kernel

set_option maxRecDepth 100000 in
set_option maxHeartbeats 2000000 in
theorem finds_any (w : World) : Calls Try.prog 14 #[] w fun e w' => e = .returned (.bool true) ∧ Below w.heap.size w w' := by
  go_enter Try.func14, Try.ntmps14
  go_wp2_with fail
  have r1 := Rd.lits w 3 [3, 1, 2, 1, 5] (by decide)
  refine (ahead_any _ _ _ _ _ r1 (by decide)).mono ?_
  rintro e w1 ⟨g, rfl, o1, b1⟩
  rw [show [(3 : Int), 1, 2, 1, 5].length = 5 from rfl, k1] at o1
  have c1 : Below w.heap.size w w1 := ((Below.refl _ w).alloc (Nat.le_refl _) _).trans (b1.mono (by simp))
  go_wp2_with fail
  have r2 := Rd.lits w1 3 [-1, -1, 1, -1, 3] (by decide)
  refine (same_law _ _ _ _ _ _ _ _ _ (o1.alloc _).rd r2).mono ?_
  rintro e w2 ⟨rfl, b2⟩
  have c2 : Below w.heap.size w w2 := c1.trans (((Below.refl _ w1).alloc c1.size _).trans (b2.mono (by simp; exact Nat.le_succ_of_le c1.size)))
  rw [show decide ([(-1 : Int), -1, 1, -1, 3] = [-1, -1, 1, -1, 3]) = true from by decide]
  go_wp2_with fail
  have r3 := Rd.lits w2 3 [3, 1, 2, 1, 5] (by decide)
  refine (behind_any _ _ _ _ _ r3 (by decide)).mono ?_
  rintro e w3 ⟨g3, rfl, o3, b3⟩
  rw [show [(3 : Int), 1, 2, 1, 5].length = 5 from rfl, k2] at o3
  have c3 : Below w.heap.size w w3 := c2.trans (((Below.refl _ w2).alloc c2.size _).trans (b3.mono (by simp; exact Nat.le_succ_of_le c2.size)))
  go_wp2_with fail
  have r4 := Rd.lits w3 3 [1, 5, 3, 5, 5] (by decide)
  refine (same_law _ _ _ _ _ _ _ _ _ (o3.alloc _).rd r4).mono ?_
  rintro e w4 ⟨rfl, b4⟩
  have c4 : Below w.heap.size w w4 := c3.trans (((Below.refl _ w3).alloc c3.size _).trans (b4.mono (by simp; exact Nat.le_succ_of_le c3.size)))
  rw [show decide ([(1 : Int), 5, 3, 5, 5] = [1, 5, 3, 5, 5]) = true from by decide]
  go_wp2_with fail
  go_ret
  exact ⟨rfl, c4⟩
end Go.Proofs.Ytkijfooijchilaa
