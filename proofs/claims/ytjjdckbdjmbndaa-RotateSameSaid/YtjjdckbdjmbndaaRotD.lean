/- What the laws of rotate share: contracts, the known answers. -/
import Derived.Test.YtjjdckbdjmbndaaRotC
namespace Go.Proofs.Ytjjdckbdjmbndaa
set_option linter.unusedSimpArgs false
set_option linter.unusedVariables false
open Go.RowKit

theorem rstr {w : World} {ad : Option Addr} {n cap : Nat} {xs : List UInt8} (h : Rd w 1 ad n cap (B8 xs)) : (convert 22 9 (.slice ad n cap)).run Try.prog w = .ok (.string (bstr xs)) w :=
  run_str Try.underlying22 Try.underlying5 Try.underlying9 h
/-- a text and a constant -/
theorem eqC' (t : TypeId) (xs : List UInt8) : binOp .eql t (.string (bstr xs)) (.string (bstr xs)) = pure (.bool true) := by rw [text_eql]; simp

theorem back_in (w : World) (ad : Option Addr) (n cap : Nat) (b : List UInt8) (hb : Rd w 1 ad n cap (B8 b)) (hn : n ≤ 100000) (p : Nat) (hp : p < n) :
    Calls Try.prog 12 #[.slice ad n cap, .int .i64 (p : Int)] w fun e w' => ∃ a c, e = .returned (.tuple #[.slice a n c, .int .i64 0]) ∧ Own w' 5 1 w.heap.size a n c (B8 (backL b p)) ∧ Below w.heap.size w w' :=
  (back_law w ad n cap b hb hn p).mono fun e w' ⟨h1, h2⟩ => by
    rcases h2 with ⟨h2, _⟩ | ⟨q, a, c, h2, h3, h4, h5⟩
    · exact absurd ⟨by omega, by omega⟩ h2
    · have : p = q := by omega
      subst this
      exact ⟨a, c, h4, h5, h1⟩
theorem back_out (w : World) (ad : Option Addr) (n cap : Nat) (b : List UInt8) (hb : Rd w 1 ad n cap (B8 b)) (hn : n ≤ 100000) (p : Int) (hp : ¬ (0 ≤ p ∧ p < n)) :
    Calls Try.prog 12 #[.slice ad n cap, .int .i64 p] w fun e w' => e = .returned (.tuple #[.slice none 0 0, .int .i64 2]) ∧ Below w.heap.size w w' :=
  (back_law w ad n cap b hb hn p).mono fun e w' ⟨h1, h2⟩ => by
    rcases h2 with ⟨h2, h3⟩ | ⟨q, a, c, h2, h3, h4, h5⟩
    · exact ⟨h3, h1⟩
    · exact absurd ⟨by omega, by omega⟩ hp

/-! known answers -/
theorem Rd.lit8 (w : World) (fr : Nat × Nat) (b : List UInt8) (hl : b.length ≤ 100000) : Rd (w.alloc (.cells (B8 b).toArray 5 fr)) 1 (some ⟨w.heap.size, 0, none⟩) b.length b.length (B8 b) :=
  Rd.rowM w 5 1 b.length fr (B8 b) (by rw [B8_len]; omega) (by unfold maxLen; omega) (B8_one b)
theorem turn_known (w : World) (fr : Nat × Nat) (b : List UInt8) (o : List Nat) (h : Ordered b true o) (L : List UInt8) (hL : lastL b o = L) (z : Nat) (hz : zeroP o b.length = z) (hl : b.length ≤ 100000) :
    Calls Try.prog 9 #[.slice (some ⟨w.heap.size, 0, none⟩) b.length b.length] (w.alloc (.cells (B8 b).toArray 5 fr)) fun e w' =>
      ∃ a c, e = .returned (.tuple #[.slice a b.length c, .int .i64 (z : Int)]) ∧ Own w' 5 1 w.heap.size a b.length c (B8 L) ∧ Below w.heap.size w w' :=
  (turn_law _ _ _ _ b (Rd.lit8 w fr b hl) hl).mono fun e w' ⟨a, c, o', h1, h2, h3, h4⟩ => by
    obtain rfl := h2.unique h
    subst hL; subst hz
    exact ⟨a, c, h1, h3.lower (by simp), ((Below.refl _ w).alloc (Nat.le_refl _) _).trans (h4.mono (by simp))⟩
theorem back_known (w : World) (fr : Nat × Nat) (b : List UInt8) (p : Nat) (hp : p < b.length) (T : List UInt8) (hT : backL b p = T) (hl : b.length ≤ 100000) :
    Calls Try.prog 12 #[.slice (some ⟨w.heap.size, 0, none⟩) b.length b.length, .int .i64 (p : Int)] (w.alloc (.cells (B8 b).toArray 5 fr)) fun e w' =>
      ∃ a c, e = .returned (.tuple #[.slice a b.length c, .int .i64 0]) ∧ Own w' 5 1 w.heap.size a b.length c (B8 T) ∧ Below w.heap.size w w' :=
  (back_in _ _ _ _ b (Rd.lit8 w fr b hl) hl p hp).mono fun e w' ⟨a, c, h1, h3, h4⟩ => by
    subst hT
    exact ⟨a, c, h1, h3.lower (by simp), ((Below.refl _ w).alloc (Nat.le_refl _) _).trans (h4.mono (by simp))⟩
theorem back_knownE (w : World) (fr : Nat × Nat) (b : List UInt8) (p : Int) (hp : ¬ (0 ≤ p ∧ p < (b.length : Int))) (hl : b.length ≤ 100000) :
    Calls Try.prog 12 #[.slice (some ⟨w.heap.size, 0, none⟩) b.length b.length, .int .i64 p] (w.alloc (.cells (B8 b).toArray 5 fr)) fun e w' =>
      e = .returned (.tuple #[.slice none 0 0, .int .i64 2]) ∧ Below w.heap.size w w' :=
  (back_out _ _ _ _ b (Rd.lit8 w fr b hl) hl p hp).mono fun e w' ⟨h1, h4⟩ => ⟨h1, ((Below.refl _ w).alloc (Nat.le_refl _) _).trans (h4.mono (by simp))⟩
theorem ban_rot : Ordered [98, 97, 110, 97, 110, 97] true [5, 3, 1, 0, 4, 2] := Ordered.mk' _ _ _ (fun x => by simp; omega) rfl (by decide +kernel)
theorem ban_last : lastL [98, 97, 110, 97, 110, 97] [5, 3, 1, 0, 4, 2] = [110, 110, 98, 97, 97, 97] := by decide +kernel
theorem ban_back : backL [110, 110, 98, 97, 97, 97] 3 = [98, 97, 110, 97, 110, 97] := by decide +kernel

set_option maxRecDepth 100000 in
set_option maxHeartbeats 2000000 in
theorem turns_any (w : World) : Calls Try.prog 11 #[] w fun e w' => e = .returned (.bool true) ∧ Below w.heap.size w w' := by
  have kc := fun (w : World) (C : Array Value) (n c : Nat) => Lib.run_convert_bytes_const (P := Try.prog) w 22 5 C n c Try.underlying22 Try.underlying5
  go_enter Try.func11, Try.ntmps11
  go_wp2_with fail
  refine (turn_known w _ [98, 97, 110, 97, 110, 97] _ ban_rot _ ban_last 3 (by decide) (by decide)).mono ?_
  rintro e w1 ⟨a1, c1', rfl, o1, b1⟩
  go_wp2_with fail
  refine (back_known w1 _ [110, 110, 98, 97, 97, 97] 3 (by decide) _ ban_back (by decide)).mono ?_
  rintro e w2 ⟨a2, c2', rfl, o2, b2⟩
  have c2 := b1.trans (b2.mono b1.size)
  have s1 : (convert 22 9 (.slice a1 6 c1')).run Try.prog w2 = .ok (.string (bstr [110, 110, 98, 97, 97, 97])) w2 := rstr (o1.rd.below b2)
  have s2 : (convert 22 9 (.slice a2 6 c2')).run Try.prog w2 = .ok (.string (bstr [98, 97, 110, 97, 110, 97])) w2 := rstr o2.rd
  have q1 : binOp .eql 9 (.string (bstr [110, 110, 98, 97, 97, 97])) (.string ⟨#[110, 110, 98, 97, 97, 97]⟩) = pure (.bool true) := eqC' _ [110, 110, 98, 97, 97, 97]
  have q2 : binOp .eql 9 (.string (bstr [98, 97, 110, 97, 110, 97])) (.string ⟨#[98, 97, 110, 97, 110, 97]⟩) = pure (.bool true) := eqC' _ [98, 97, 110, 97, 110, 97]
  clear o1 o2
  go_wp2_with fail
  go_ret
  exact ⟨rfl, c2⟩
end Go.Proofs.Ytjjdckbdjmbndaa
