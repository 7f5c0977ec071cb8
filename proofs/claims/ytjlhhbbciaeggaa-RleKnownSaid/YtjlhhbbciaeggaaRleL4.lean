/- RleKnown. -/
import Derived.Test.YtjlhhbbciaeggaaRleJ
namespace Go.Proofs.Ytjlhhbbciaeggaa
set_option linter.unusedSimpArgs false
set_option linter.unusedVariables false
open Go.RowKit

theorem stA : Stop [97, 97, 97, 98] 9 2 := ⟨by decide +kernel, by decide +kernel, by decide +kernel⟩
theorem stB : Stop [97, 97, 97, 97] 9 1 := ⟨by decide +kernel, by decide +kernel, by decide +kernel⟩
theorem stC : Stop [97, 97, 97, 97, 98] 5 1 := ⟨by decide +kernel, by decide +kernel, by decide +kernel⟩
theorem stD : Stop [98, 98, 97, 97, 97, 97] 6 1 := ⟨by decide +kernel, by decide +kernel, by decide +kernel⟩
theorem stE : Stop [] 5 0 := ⟨by decide +kernel, by decide +kernel, by decide +kernel⟩
theorem pack_low (w : World) (ad : Option Addr) (n cap : Nat) (b : List UInt8) (hb : Rd w 1 ad n cap (B8 b)) (hn : n ≤ 100000) (room : Int) (h5 : room < 5) :
    Calls Try.prog 8 #[.slice ad n cap, .int .i64 room] w fun e w' => e = .returned (.tuple #[.slice none 0 0, .int .i64 0, .int .i64 5]) ∧ Below w.heap.size w w' :=
  (pack_law w ad n cap b hb hn room (by omega)).mono fun e w' ⟨h1, h2⟩ => by
    rcases h2 with ⟨_, h2⟩ | ⟨h2, _⟩
    · exact ⟨h2, h1⟩
    · omega
theorem pack_lowK (w : World) (fr : Nat × Nat) (b : List UInt8) (hl : b.length ≤ 100000) (room : Int) (h5 : room < 5) :
    Calls Try.prog 8 #[.slice (some ⟨w.heap.size, 0, none⟩) b.length b.length, .int .i64 room] (w.alloc (.cells (B8 b).toArray 5 fr)) fun e w' =>
      e = .returned (.tuple #[.slice none 0 0, .int .i64 0, .int .i64 5]) ∧ Below w.heap.size w w' :=
  (pack_low _ _ _ _ b (Rd.lit8 w fr b hl) hl room h5).mono fun e w' ⟨h1, h4⟩ => ⟨h1, ((Below.refl _ w).alloc (Nat.le_refl _) _).trans (h4.mono (by simp))⟩
theorem unpack_low (w : World) (ad : Option Addr) (n cap : Nat) (b : List UInt8) (hb : Rd w 1 ad n cap (B8 b)) (hn : n ≤ 10000) (keep : Int) (h5 : keep < 0) :
    Calls Try.prog 11 #[.slice ad n cap, .int .i64 keep] w fun e w' => e = .returned (.tuple #[.agg #[.slice none 0 0, .int .i64 0, .int .i64 0, .bool false], .int .i64 5]) ∧ Below w.heap.size w w' :=
  (unpack_law w ad n cap b hb hn keep (by omega)).mono fun e w' ⟨h1, h2⟩ => by
    rcases h2 with ⟨_, h2⟩ | ⟨h2, _⟩
    · exact ⟨h2, h1⟩
    · omega

set_option maxRecDepth 100000 in
set_option maxHeartbeats 4000000 in
theorem rleKnown_law (w : World) : Calls Try.prog 7 #[] w fun e w' => e = .returned (.bool true) ∧ Below w.heap.size w w' := by
  have kc := fun (w : World) (C : Array Value) (n c : Nat) => Lib.run_convert_bytes_const (P := Try.prog) w 22 5 C n c Try.underlying22 Try.underlying5
  go_enter Try.func7, Try.ntmps7
  go_wp2_with fail
  refine (pack_known w _ [97, 97, 97, 98] (by decide) 9 (by decide) (by decide) 2 stA [97, 97, 97, 98] (by decide +kernel) 4 rfl 4 (by decide +kernel)).mono ?_
  rintro e w1 ⟨a1, k1, rfl, o1, b1⟩
  go_wp2_with fail
  refine (pack_known w1 _ [97, 97, 97, 97] (by decide) 9 (by decide) (by decide) 1 stB [97, 97, 97, 97, 0] (by decide +kernel) 5 rfl 4 (by decide +kernel)).mono ?_
  rintro e w2 ⟨a2, k2, rfl, o2, b2⟩
  have c2 := b1.trans (b2.mono b1.size)
  have r1 := o1.rd.below b2
  have r2 := o2.rd
  clear b1 b2 o1 o2
  go_wp2_with fail
  refine (pack_known w2 _ [97, 97, 97, 97, 98] (by decide) 5 (by decide) (by decide) 1 stC [97, 97, 97, 97, 0] (by decide +kernel) 5 rfl 4 (by decide +kernel)).mono ?_
  rintro e w3 ⟨a3, k3, rfl, o3, b3⟩
  have c3 := c2.trans (b3.mono c2.size)
  replace r1 := r1.below b3
  replace r2 := r2.below b3
  have r3 := o3.rd
  clear c2 b3 o3
  go_wp2_with fail
  refine (pack_known w3 _ [98, 98, 97, 97, 97, 97] (by decide) 6 (by decide) (by decide) 1 stD [98, 98] (by decide +kernel) 2 rfl 2 (by decide +kernel)).mono ?_
  rintro e w4 ⟨a4, k4, rfl, o4, b4⟩
  have c4 := c3.trans (b4.mono c3.size)
  replace r1 := r1.below b4
  replace r2 := r2.below b4
  replace r3 := r3.below b4
  have r4 := o4.rd
  clear c3 b4 o4
  go_wp2_with fail
  refine (pack_lowK w4 _ [97] (by decide) 4 (by decide)).mono ?_
  rintro e w5 ⟨rfl, b5⟩
  have c5 := c4.trans (b5.mono c4.size)
  replace r1 := r1.below b5
  replace r2 := r2.below b5
  replace r3 := r3.below b5
  replace r4 := r4.below b5
  clear c4 b5
  go_wp2_with fail
  refine (pack_one w5 none 0 0 [] (Rd.empty _ _) (by decide) 5 (by decide) (by decide) 0 stE [] rfl 0 rfl 0 rfl).mono ?_
  rintro e w6 ⟨a6, k6, rfl, o6, b6⟩
  have c6 := c5.trans (b6.mono c5.size)
  replace r1 := r1.below b6
  replace r2 := r2.below b6
  replace r3 := r3.below b6
  replace r4 := r4.below b6
  clear c5 b6 o6
  go_wp2_with fail
  refine (unpack_known w6 _ [97, 97, 97, 97] (by decide) 99 (by decide) [97, 97, 97, 97] (by decide +kernel) 4 rfl 4 (by decide +kernel)).mono ?_
  rintro e w7 ⟨a7, k7, rfl, o7, b7⟩
  have c7 := c6.trans (b7.mono c6.size)
  replace r1 := r1.below b7
  replace r2 := r2.below b7
  replace r3 := r3.below b7
  replace r4 := r4.below b7
  have r7 := o7.rd
  clear c6 b7 o7
  go_upto_region 8 with fail
  have n7 := four_own w7 29 (.slice a7 4 k7) (.int .i64 4) (.int .i64 4) (.bool false) rfl rfl rfl rfl
  have d7 := c7.alloc c7.size (.cells #[.slice a7 4 k7, .int .i64 4, .int .i64 4, .bool false] 29)
  replace r1 := r1.alloc (.cells #[.slice a7 4 k7, .int .i64 4, .int .i64 4, .bool false] 29)
  replace r2 := r2.alloc (.cells #[.slice a7 4 k7, .int .i64 4, .int .i64 4, .bool false] 29)
  replace r3 := r3.alloc (.cells #[.slice a7 4 k7, .int .i64 4, .int .i64 4, .bool false] 29)
  replace r4 := r4.alloc (.cells #[.slice a7 4 k7, .int .i64 4, .int .i64 4, .bool false] 29)
  replace r7 := r7.alloc (.cells #[.slice a7 4 k7, .int .i64 4, .int .i64 4, .bool false] 29)
  generalize w7.alloc (.cells #[.slice a7 4 k7, .int .i64 4, .int .i64 4, .bool false] 29) = v7 at *
  generalize w7.heap.size = B7 at *
  clear c7
  go_wp2_with fail
  refine (unpack_known v7 _ [97, 97, 97, 97, 255] (by decide) 3 (by decide) [97, 97, 97] (by decide +kernel) 3 rfl 259 (by decide +kernel)).mono ?_
  rintro e w8 ⟨a8, k8, rfl, o8, b8⟩
  have c8 := d7.trans (b8.mono d7.size)
  replace n7 := n7.below b8
  replace r1 := r1.below b8
  replace r2 := r2.below b8
  replace r3 := r3.below b8
  replace r4 := r4.below b8
  replace r7 := r7.below b8
  have r8 := o8.rd
  clear d7 b8 o8
  go_upto_region 9 with fail
  have n8 := four_own w8 29 (.slice a8 3 k8) (.int .i64 259) (.int .i64 5) (.bool false) rfl rfl rfl rfl
  have d8 := c8.alloc c8.size (.cells #[.slice a8 3 k8, .int .i64 259, .int .i64 5, .bool false] 29)
  replace r1 := r1.alloc (.cells #[.slice a8 3 k8, .int .i64 259, .int .i64 5, .bool false] 29)
  replace r2 := r2.alloc (.cells #[.slice a8 3 k8, .int .i64 259, .int .i64 5, .bool false] 29)
  replace r3 := r3.alloc (.cells #[.slice a8 3 k8, .int .i64 259, .int .i64 5, .bool false] 29)
  replace r4 := r4.alloc (.cells #[.slice a8 3 k8, .int .i64 259, .int .i64 5, .bool false] 29)
  replace r7 := r7.alloc (.cells #[.slice a8 3 k8, .int .i64 259, .int .i64 5, .bool false] 29)
  replace r8 := r8.alloc (.cells #[.slice a8 3 k8, .int .i64 259, .int .i64 5, .bool false] 29)
  replace n7 := n7.alloc (.cells #[.slice a8 3 k8, .int .i64 259, .int .i64 5, .bool false] 29)
  generalize w8.alloc (.cells #[.slice a8 3 k8, .int .i64 259, .int .i64 5, .bool false] 29) = v8 at *
  generalize w8.heap.size = B8' at *
  clear c8
  go_wp2_with fail
  refine (unpack_low v8 none 0 0 [] (Rd.empty _ _) (by decide) (-1) (by decide)).mono ?_
  rintro e w9 ⟨rfl, b9⟩
  have c9 := d8.trans (b9.mono d8.size)
  replace n7 := n7.below b9
  replace n8 := n8.below b9
  replace r1 := r1.below b9
  replace r2 := r2.below b9
  replace r3 := r3.below b9
  replace r4 := r4.below b9
  replace r7 := r7.below b9
  replace r8 := r8.below b9
  clear d8 b9
  go_upto_region 10 with fail
  have d9 := c9.alloc c9.size (.cells #[.slice none 0 0, .int .i64 0, .int .i64 0, .bool false] 29)
  replace r1 := r1.alloc (.cells #[.slice none 0 0, .int .i64 0, .int .i64 0, .bool false] 29)
  replace r2 := r2.alloc (.cells #[.slice none 0 0, .int .i64 0, .int .i64 0, .bool false] 29)
  replace r3 := r3.alloc (.cells #[.slice none 0 0, .int .i64 0, .int .i64 0, .bool false] 29)
  replace r4 := r4.alloc (.cells #[.slice none 0 0, .int .i64 0, .int .i64 0, .bool false] 29)
  replace r7 := r7.alloc (.cells #[.slice none 0 0, .int .i64 0, .int .i64 0, .bool false] 29)
  replace r8 := r8.alloc (.cells #[.slice none 0 0, .int .i64 0, .int .i64 0, .bool false] 29)
  replace n7 := n7.alloc (.cells #[.slice none 0 0, .int .i64 0, .int .i64 0, .bool false] 29)
  replace n8 := n8.alloc (.cells #[.slice none 0 0, .int .i64 0, .int .i64 0, .bool false] 29)
  generalize w9.alloc (.cells #[.slice none 0 0, .int .i64 0, .int .i64 0, .bool false] 29) = v9 at *
  clear c9
  go_wp2_with fail
  refine (unpack_known v9 _ [97, 97, 97, 98, 98, 98, 98, 1, 98] (by decide) 99 (by decide) [97, 97, 97, 98, 98, 98, 98, 98, 98] (by decide +kernel) 9 rfl 9 (by decide +kernel)).mono ?_
  rintro e w10 ⟨a10, k10, rfl, o10, b10⟩
  have c10 := d9.trans (b10.mono d9.size)
  replace n7 := (n7.below b10).alloc (.cells #[.slice a10 9 k10, .int .i64 9, .int .i64 9, .bool false] 29)
  replace n8 := (n8.below b10).alloc (.cells #[.slice a10 9 k10, .int .i64 9, .int .i64 9, .bool false] 29)
  have e0 := (Own.read n7 (j := 0) rfl).1
  have e1 := (Own.read n8 (j := 0) rfl).1
  have e2 := (Own.read n8 (j := 1) rfl).1
  have f1 := (Own.read n7 (j := 1) rfl).1
  have f2 := (Own.read n7 (j := 2) rfl).1
  have f3 := (Own.read n7 (j := 3) rfl).1
  have f4 := (Own.read n8 (j := 2) rfl).1
  have f5 := (Own.read n8 (j := 3) rfl).1
  clear n7 n8
  have s1 : (convert 22 9 (.slice a1 4 k1)).run Try.prog (w10.alloc (.cells #[.slice a10 9 k10, .int .i64 9, .int .i64 9, .bool false] 29)) = .ok (.string (bstr [97, 97, 97, 98])) (w10.alloc (.cells #[.slice a10 9 k10, .int .i64 9, .int .i64 9, .bool false] 29)) := rstr ((r1.below b10).alloc _)
  have s2 : (convert 22 9 (.slice a2 5 k2)).run Try.prog (w10.alloc (.cells #[.slice a10 9 k10, .int .i64 9, .int .i64 9, .bool false] 29)) = .ok (.string (bstr [97, 97, 97, 97, 0])) (w10.alloc (.cells #[.slice a10 9 k10, .int .i64 9, .int .i64 9, .bool false] 29)) := rstr ((r2.below b10).alloc _)
  have s3 : (convert 22 9 (.slice a3 5 k3)).run Try.prog (w10.alloc (.cells #[.slice a10 9 k10, .int .i64 9, .int .i64 9, .bool false] 29)) = .ok (.string (bstr [97, 97, 97, 97, 0])) (w10.alloc (.cells #[.slice a10 9 k10, .int .i64 9, .int .i64 9, .bool false] 29)) := rstr ((r3.below b10).alloc _)
  have s4 : (convert 22 9 (.slice a4 2 k4)).run Try.prog (w10.alloc (.cells #[.slice a10 9 k10, .int .i64 9, .int .i64 9, .bool false] 29)) = .ok (.string (bstr [98, 98])) (w10.alloc (.cells #[.slice a10 9 k10, .int .i64 9, .int .i64 9, .bool false] 29)) := rstr ((r4.below b10).alloc _)
  have s7 : (convert 22 9 (.slice a7 4 k7)).run Try.prog (w10.alloc (.cells #[.slice a10 9 k10, .int .i64 9, .int .i64 9, .bool false] 29)) = .ok (.string (bstr [97, 97, 97, 97])) (w10.alloc (.cells #[.slice a10 9 k10, .int .i64 9, .int .i64 9, .bool false] 29)) := rstr ((r7.below b10).alloc _)
  have s8 : (convert 22 9 (.slice a8 3 k8)).run Try.prog (w10.alloc (.cells #[.slice a10 9 k10, .int .i64 9, .int .i64 9, .bool false] 29)) = .ok (.string (bstr [97, 97, 97])) (w10.alloc (.cells #[.slice a10 9 k10, .int .i64 9, .int .i64 9, .bool false] 29)) := rstr ((r8.below b10).alloc _)
  have s9 : (convert 22 9 (.slice a10 9 k10)).run Try.prog (w10.alloc (.cells #[.slice a10 9 k10, .int .i64 9, .int .i64 9, .bool false] 29)) = .ok (.string (bstr [97, 97, 97, 98, 98, 98, 98, 98, 98])) (w10.alloc (.cells #[.slice a10 9 k10, .int .i64 9, .int .i64 9, .bool false] 29)) := rstr (o10.rd.alloc _)
  have q1 : binOp .eql 9 (.string (bstr [97, 97, 97, 98])) (.string ⟨#[97, 97, 97, 98]⟩) = pure (.bool true) := eqC' _ [97, 97, 97, 98]
  have q2 : binOp .eql 9 (.string (bstr [97, 97, 97, 97, 0])) (.string ⟨#[97, 97, 97, 97, 0]⟩) = pure (.bool true) := eqC' _ [97, 97, 97, 97, 0]
  have q4 : binOp .eql 9 (.string (bstr [98, 98])) (.string ⟨#[98, 98]⟩) = pure (.bool true) := eqC' _ [98, 98]
  have q7 : binOp .eql 9 (.string (bstr [97, 97, 97, 97])) (.string ⟨#[97, 97, 97, 97]⟩) = pure (.bool true) := eqC' _ [97, 97, 97, 97]
  have q8 : binOp .eql 9 (.string (bstr [97, 97, 97])) (.string ⟨#[97, 97, 97]⟩) = pure (.bool true) := eqC' _ [97, 97, 97]
  have q9 : binOp .eql 9 (.string (bstr [97, 97, 97, 98, 98, 98, 98, 98, 98])) (.string ⟨#[97, 97, 97, 98, 98, 98, 98, 98, 98]⟩) = pure (.bool true) := eqC' _ [97, 97, 97, 98, 98, 98, 98, 98, 98]
  clear d9 r1 r2 r3 r4 r7 r8 o10 b10 kc
  go_wp2_with fail
  refine (packs_any _).mono ?_
  rintro e w11 ⟨rfl, b11⟩
  have c10' := c10.alloc c10.size (.cells #[.slice a10 9 k10, .int .i64 9, .int .i64 9, .bool false] 29)
  have c11 := c10'.trans (b11.mono c10'.size)
  clear c10 b11
  go_wp2_with fail
  go_ret
  exact ⟨rfl, c11⟩
end Go.Proofs.Ytjlhhbbciaeggaa
