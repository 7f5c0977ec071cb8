/- What the laws of front share. -/
import Derived.Test.YtindbmfccgeikaaFroG
import Derived.Test.YtindbmfccgeikaaFroH
namespace Go.Proofs.Ytindbmfccgeikaa
set_option linter.unusedSimpArgs false
set_option linter.unusedVariables false
open Go.RowKit

theorem GetPost.ok {w : World} {us : List UInt8} {ss : List Int} {most : Int} {e : Ending} {w' : World} {out : List UInt8} (h : GetPost w us ss most e w') (hR : getR us ss most = .ok out) :
    ∃ a c, e = .returned (.tuple #[.slice a out.length c, .int .i64 0]) ∧ Own w' 5 1 w.heap.size a out.length c (B8 out) ∧ Below w.heap.size w w' := by
  obtain ⟨⟨k, h1, _⟩ | ⟨o, a, c, h1, h2, h3, h4⟩, hb⟩ := h
  · rw [hR] at h1; cases h1
  · rw [hR] at h1; cases h1; exact ⟨a, c, h2, h3, hb⟩
theorem GetPost.err {w : World} {us : List UInt8} {ss : List Int} {most : Int} {e : Ending} {w' : World} {k : Int} (h : GetPost w us ss most e w') (hR : getR us ss most = .error k) :
    e = .returned (.tuple #[.slice none 0 0, .int .i64 k]) ∧ Below w.heap.size w w' := by
  obtain ⟨⟨k', h1, h2⟩ | ⟨o, a, c, h1, _⟩, hb⟩ := h
  · rw [hR] at h1; cases h1; exact ⟨h2, hb⟩
  · rw [hR] at h1; cases h1
theorem rstr {w : World} {ad : Option Addr} {n cap : Nat} {xs : List UInt8} (h : Rd w 1 ad n cap (B8 xs)) : (convert 22 9 (.slice ad n cap)).run Try.prog w = .ok (.string (bstr xs)) w :=
  run_str Try.underlying22 Try.underlying5 Try.underlying9 h

theorem say_u : usedL [97, 97, 97, 98] = [97, 98] := by decide +kernel
theorem dig2 : digL 2 = [1] := by rw [digL_pos 2 (by decide)]; simp [digL_zero]
theorem say_p : putL [97, 97, 97, 98] = [0, 0, 2, 3] := by
  unfold putL
  rw [say_u]
  have e1 : pos8 [97, 98] 97 = 0 := by decide
  have e2 : mvd [97, 98] 0 = [97, 98] := by decide
  have e3 : pos8 [97, 98] 98 = 1 := by decide
  have d3 : digL 3 = [0, 0] := by rw [digL_pos 3 (by decide), digL_pos _ (by decide)]; simp [digL_zero]
  simp only [putS, e1, if_true, e2, e3]
  simp [putS, d3, digL_zero]
theorem say_g : getR [97, 98, 110] [3, 0, 3, 3, 1, 4] 9 = .ok [110, 110, 98, 97, 97, 97] := by
  unfold getR
  rw [if_neg (by decide), if_neg (by decide)]
  rfl

set_option maxRecDepth 100000 in
set_option maxHeartbeats 4000000 in
theorem says_any (w : World) : Calls Try.prog 12 #[] w fun e w' => e = .returned (.bool true) ∧ Below w.heap.size w w' := by
  have kc := fun (w : World) (C : Array Value) (n c : Nat) => Lib.run_convert_bytes_const (P := Try.prog) w 22 5 C n c Try.underlying22 Try.underlying5
  have hput := fun w => put_law (w.alloc (.cells (B8 [97, 97, 97, 98]).toArray 5 (4, 5))) (some ⟨w.heap.size, 0, none⟩) 4 4 [97, 97, 97, 98] (Rd.rowM w 5 1 4 (4, 5) (B8 [97, 97, 97, 98]) rfl (by decide) (B8_one _)) (by decide)
  rw [say_u, say_p] at hput
  go_enter Try.func12, Try.ntmps12
  go_wp2_with fail
  refine (hput w).mono ?_
  rintro e w2 ⟨a, c, a2, c2, rfl, o1, o2, b1⟩
  have b2 := ((Below.refl _ w).alloc (Nat.le_refl _) (.cells (B8 [97, 97, 97, 98]).toArray 5 (4, 5))).trans (b1.mono (by simp))
  have u2 : Rd w2 1 a 2 c (B8 [97, 98]) := o1.rd
  have s2 : Rd w2 1 a2 4 c2 (I64 [0, 0, 2, 3]) := o2.rd
  clear o1 o2 hput b1
  dsimp only [List.length_cons, List.length_nil]
  have h8 := (Rd.rowM w2 5 1 3 (3, 4) (B8 [97, 98, 110]) rfl (by decide) (B8_one _)).alloc (.cells (I64 [3, 0, 3, 3, 1, 4]).toArray 3)
  have hI : Rd ((w2.alloc (.cells (B8 [97, 98, 110]).toArray 5 (3, 4))).alloc (.cells (I64 [3, 0, 3, 3, 1, 4]).toArray 3)) 1 (some ⟨w2.heap.size + 1, 0, none⟩) 6 6 (I64 [3, 0, 3, 3, 1, 4]) := by
    have := Rd.row (w2.alloc (.cells (B8 [97, 98, 110]).toArray 5 (3, 4))) 3 1 6 (I64 [3, 0, 3, 3, 1, 4]) rfl (by decide) (fun u hu => by simp [I64] at hu; rcases hu with rfl | rfl | rfl | rfl | rfl | rfl <;> rfl)
    rwa [World.size_alloc] at this
  have hget := get_law _ _ 3 3 [97, 98, 110] h8 _ 6 6 [3, 0, 3, 3, 1, 4] hI 9 (by decide) (by decide) (by decide)
  have b3 : Below w.heap.size w ((w2.alloc (.cells (B8 [97, 98, 110]).toArray 5 (3, 4))).alloc (.cells (I64 [3, 0, 3, 3, 1, 4]).toArray 3)) := (b2.alloc b2.size _).alloc (by have := b2.size; simp; omega) _
  have u3 := (u2.alloc (.cells (B8 [97, 98, 110]).toArray 5 (3, 4))).alloc (.cells (I64 [3, 0, 3, 3, 1, 4]).toArray 3)
  have s3 := (s2.alloc (.cells (B8 [97, 98, 110]).toArray 5 (3, 4))).alloc (.cells (I64 [3, 0, 3, 3, 1, 4]).toArray 3)
  clear u2 s2 b2 h8 hI
  go_wp2_with fail
  refine (show Calls Try.prog 13 #[.slice (some ⟨w2.heap.size, 0, none⟩) 3 3, .slice (some ⟨w2.heap.size + 1, 0, none⟩) 6 6, .int .i64 9] _ _ from hget).mono ?_
  rintro e w4 hg
  obtain ⟨a4, c4, rfl, o4, b4⟩ := hg.ok say_g
  have b5 := b3.trans (b4.mono b3.size)
  have u4 := rstr (u3.below b4)
  have s4 := s3.below b4
  have g4 : (convert 22 9 (.slice a4 6 c4)).run Try.prog w4 = .ok (.string (bstr [110, 110, 98, 97, 97, 97])) w4 := rstr o4.rd
  have gg : Rd w4 1 a4 6 c4 (B8 [110, 110, 98, 97, 97, 97]) := o4.rd
  clear u3 s3 b3 b4 o4 hg hget
  dsimp only [List.length_cons, List.length_nil]
  rw [show bstr [97, 98] = { data := #[97, 98] } from rfl] at u4
  have hsame := same_law (w4.alloc (.cells (I64 [0, 0, 2, 3]).toArray 3)) a2 (some ⟨w4.heap.size, 0, none⟩) 4 c2 4 4 [0, 0, 2, 3] [0, 0, 2, 3] (s4.alloc _) (Rd.row w4 3 1 4 (I64 [0, 0, 2, 3]) rfl (by decide) (fun u hu => by simp [I64] at hu; rcases hu with rfl | rfl | rfl <;> rfl))
  go_wp2_with fail
  refine (show Calls Try.prog 11 #[.slice a2 4 c2, .slice (some ⟨w4.heap.size, 0, none⟩) 4 4] _ _ from hsame).mono ?_
  rintro e w6 ⟨rfl, b6⟩
  have b46 : Below w4.heap.size w4 w6 := ((Below.refl _ w4).alloc (Nat.le_refl _) (.cells (I64 [0, 0, 2, 3]).toArray 3)).trans (b6.mono (by simp))
  have g6 := rstr (gg.below b46)
  rw [show bstr [110, 110, 98, 97, 97, 97] = { data := #[110, 110, 98, 97, 97, 97] } from rfl] at g6
  have b7 := b5.trans (b46.mono b5.size)
  clear gg b5 b46 b6 u4 g4 hsame s4
  dsimp only
  go_wp2_with fail
  go_ret
  exact ⟨rfl, b7⟩
end Go.Proofs.Ytindbmfccgeikaa
