/- The law RotateKnown, walked. -/
import Derived.Test.YtjjdckbdjmbndaaRotD
namespace Go.Proofs.Ytjjdckbdjmbndaa
set_option linter.unusedSimpArgs false
set_option linter.unusedVariables false
open Go.RowKit

theorem abab_rot : Ordered [97, 98, 97, 98] true [0, 2, 1, 3] := Ordered.mk' _ _ _ (fun x => by simp; omega) rfl (by decide +kernel)
theorem nine_rot : Ordered [9] true [0] := Ordered.mk' _ _ _ (fun x => by simp) rfl (by decide +kernel)

set_option maxRecDepth 100000 in
set_option maxHeartbeats 4000000 in
theorem rotateKnown_law (w : World) : Calls Try.prog 8 #[] w fun e w' => e = .returned (.bool true) ∧ Below w.heap.size w w' := by
  have kc := fun (w : World) (C : Array Value) (n c : Nat) => Lib.run_convert_bytes_const (P := Try.prog) w 22 5 C n c Try.underlying22 Try.underlying5
  go_enter Try.func8, Try.ntmps8
  go_wp2_with fail
  refine (turn_known w _ [97, 98, 97, 98] _ abab_rot [98, 98, 97, 97] (by decide +kernel) 0 (by decide) (by decide)).mono ?_
  rintro e w1 ⟨a1, k1, rfl, o1, b1⟩
  go_wp2_with fail
  refine (turn_law w1 none 0 0 [] (Rd.empty _ _) (by omega)).mono ?_
  rintro e w2 ⟨a2, k2, o2, rfl, ord2, own2, b2⟩
  have hz0 : zeroP o2 0 = 0 := rfl
  rw [hz0]
  have c2 := b1.trans (b2.mono b1.size)
  have p2 := o1.below b2
  clear o1 b1 b2 ord2 hz0 own2
  go_wp2_with fail
  refine (back_knownE w2 _ [97, 98] 2 (by decide) (by decide)).mono ?_
  rintro e w3 ⟨rfl, b3⟩
  have c3 := c2.trans (b3.mono c2.size)
  have p3 := p2.below b3
  clear c2 p2 b3
  go_wp2_with fail
  refine (back_out w3 none 0 0 [] (Rd.empty _ _) (by omega) 0 (by omega)).mono ?_
  rintro e w4 ⟨rfl, b4⟩
  have c4 := c3.trans (b4.mono c3.size)
  have p4 := p3.below b4
  clear c3 p3 b4
  go_wp2_with fail
  refine (back_knownE w4 _ [97, 98] (-1) (by decide) (by decide)).mono ?_
  rintro e w5 ⟨rfl, b5⟩
  have c5 := c4.trans (b5.mono c4.size)
  have p5 := p4.below b5
  clear c4 p4 b5
  go_wp2_with fail
  refine (back_known w5 _ [97, 98] 0 (by decide) [97, 97] (by decide +kernel) (by decide)).mono ?_
  rintro e w6 ⟨a6, k6, rfl, o6, b6⟩
  have c6 := c5.trans (b6.mono c5.size)
  have p6 := p5.below b6
  clear c5 p5 b6
  go_wp2_with fail
  refine (back_known w6 _ [97, 98] 1 (by decide) [98, 98] (by decide +kernel) (by decide)).mono ?_
  rintro e w7 ⟨a7, k7, rfl, o7, b7⟩
  have c7 := c6.trans (b7.mono c6.size)
  have p7 := p6.below b7
  have q7 := o6.below b7
  clear c6 p6 o6 b7
  go_wp2_with fail
  refine (turn_known w7 _ [9] _ nine_rot [9] (by decide +kernel) 0 (by decide) (by decide)).mono ?_
  rintro e w8 ⟨a8, k8, rfl, o8, b8⟩
  have c8 := c7.trans (b8.mono c7.size)
  have s1 : (convert 22 9 (.slice a1 4 k1)).run Try.prog w8 = .ok (.string (bstr [98, 98, 97, 97])) w8 := rstr (p7.below b8).rd
  have s6 : (convert 22 9 (.slice a6 2 k6)).run Try.prog w8 = .ok (.string (bstr [97, 97])) w8 := rstr (q7.below b8).rd
  have s7 : (convert 22 9 (.slice a7 2 k7)).run Try.prog w8 = .ok (.string (bstr [98, 98])) w8 := rstr (o7.below b8).rd
  have s8 : (convert 22 9 (.slice a8 1 k8)).run Try.prog w8 = .ok (.string (bstr [9])) w8 := rstr o8.rd
  have q1 : binOp .eql 9 (.string (bstr [98, 98, 97, 97])) (.string ⟨#[98, 98, 97, 97]⟩) = pure (.bool true) := eqC' _ [98, 98, 97, 97]
  have q2 : binOp .eql 9 (.string (bstr [97, 97])) (.string ⟨#[97, 97]⟩) = pure (.bool true) := eqC' _ [97, 97]
  have q3 : binOp .eql 9 (.string (bstr [98, 98])) (.string ⟨#[98, 98]⟩) = pure (.bool true) := eqC' _ [98, 98]
  have q4 : binOp .eql 9 (.string (bstr [9])) (.string ⟨#[9]⟩) = pure (.bool true) := eqC' _ [9]
  clear c7 p7 q7 o7 o8 b8 kc
  go_wp2_with fail
  refine (turns_any _).mono ?_
  rintro e w9 ⟨rfl, b9⟩
  have c9 := c8.trans (b9.mono c8.size)
  clear c8 b9
  go_wp2_with fail
  go_ret
  exact ⟨rfl, c9⟩
end Go.Proofs.Ytjjdckbdjmbndaa
