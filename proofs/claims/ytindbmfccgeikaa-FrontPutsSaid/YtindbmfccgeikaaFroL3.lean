/- FrontPuts. -/
import Derived.Test.YtindbmfccgeikaaFroM
namespace Go.Proofs.Ytindbmfccgeikaa
set_option linter.unusedSimpArgs false
set_option linter.unusedVariables false
open Go.RowKit

set_option maxRecDepth 100000 in
set_option maxHeartbeats 8000000 in
theorem frontPuts_law (w : World) (ad : Option Addr) (n cap : Nat) (b : List UInt8) (hb : Rd w 1 ad n cap (B8 b)) :
    Calls Try.prog 3 #[.slice ad n cap] w fun e w' => e = .returned (.bool true) ∧ Below w.heap.size w w' := by
  by_cases hn : 1000 < n
  · go_enter Try.func3, Try.ntmps3
    go_wp2_with fail
    go_ret
    exact ⟨rfl, Below.refl _ _⟩
  have hl := hb.len8
  have hput := fun W a c (h : Rd W 1 a n c (B8 b)) => put_law W a n c b h (by omega)
  have hrput := fun W (h : Rd W 1 ad n cap (B8 b)) => rput_law W ad n cap b h (by omega)
  generalize usedL b = U at *
  generalize putL b = P at *
  obtain ⟨m, hm⟩ : ∃ m, U.length = m := ⟨_, rfl⟩
  obtain ⟨p, hp⟩ : ∃ p, P.length = p := ⟨_, rfl⟩
  simp only [hm, hp] at hput hrput
  have HL := Lib.hid hl; clear hl
  have HM := Lib.hid hm; clear hm
  have HP := Lib.hid hp; clear hp
  have HPUT := Lib.hid hput; clear hput
  have HRPUT := Lib.hid hrput; clear hrput
  go_enter Try.func3, Try.ntmps3
  go_wp2_with (refine wpList_clone rfl _ _ _ rfl elB rfl rfl hb (by unfold maxLen; omega) (by omega) ?_; intro a1 k1 w1 o1 b1 s1; clear s1)
  refine (HPUT.out w1 a1 k1 o1.rd).mono ?_
  rintro e w2 ⟨a2, c2, a3, c3, rfl, o2, o3, b2⟩
  have b12 := b1.trans (b2.mono b1.size)
  have r1 := o1.rd.below b2
  have r2 := o2.rd
  have r3 := o3.rd
  clear o1 o2 o3 b1 b2
  go_wp2_with fail
  refine (HRPUT.out w2 (hb.below b12)).mono ?_
  rintro e w3 ⟨a4, c4, a5, c5, rfl, o4, o5, b3⟩
  have b13 := b12.trans (b3.mono b12.size)
  have s1 := rstr (r2.below b3)
  have s2 := rstr o4.rd
  have s1r := r1.below b3
  have hsame := same_law w3 a3 a5 p c3 p c5 (toI P) (toI P) (by rw [show I64 (toI P) = N64 P by simp [toI, I64, N64, Function.comp_def]]; exact r3.below b3) (by rw [show I64 (toI P) = N64 P by simp [toI, I64, N64, Function.comp_def]]; exact o5.rd)
  rw [show decide (toI P = toI P) = true by simp] at hsame
  clear o4 o5 r1 r2 r3 b12 b3
  go_wp2_with fail
  refine hsame.mono ?_
  rintro e w4 ⟨rfl, b4⟩
  have b14 := b13.trans (b4.mono b13.size)
  have s3 := rstr (s1r.below b4)
  have s4 := rstr (hb.below b14)
  clear s1 s2 s1r b13 b4 hsame
  go_wp2_with fail
  refine (says_any _).mono ?_
  rintro e w9 ⟨rfl, b9⟩
  go_wp2_with fail
  go_ret
  exact ⟨rfl, b14.trans (b9.mono b14.size)⟩
end Go.Proofs.Ytindbmfccgeikaa
