/- What the laws of token share: says. -/
import Derived.Test.YtlmpooibpopcaaaTokI
import Derived.Test.YtlmpooibpopcaaaStr
namespace Go.Proofs.Ytlmpooibpopcaaa
set_option linter.unusedSimpArgs false
set_option linter.unusedVariables false
open Go.RowKit Go.Shelf
attribute [local go_sem] Oper.semAt_some

theorem rstr {w : World} {ad : Option Addr} {n cap : Nat} {xs : List UInt8} (h : Rd w 1 ad n cap (B8 xs)) : (convert 23 9 (.slice ad n cap)).run Try.prog w = .ok (.string (bstr xs)) w :=
  run_str Try.underlying23 Try.underlying5 Try.underlying9 h
/-- a text and a constant -/
theorem eqC' (t : TypeId) (xs : List UInt8) : binOp .eql t (.string (bstr xs)) (.string (bstr xs)) = pure (.bool true) := by rw [text_eql]; simp

theorem T3_one (ts : List Tok) : ∀ u ∈ T3 ts, u.oneCell' = true := by
  intro u hu
  obtain ⟨t, _, ht⟩ := List.mem_flatMap.1 hu
  simp [tokC] at ht
  rcases ht with rfl | rfl | rfl <;> rfl
theorem Rd.lit3 (w : World) (fr : Nat × Nat) (ts : List Tok) (n : Nat) (hn : ts.length = n) (hl : n ≤ 1000) : Rd (w.alloc (.cells (T3 ts).toArray 28 fr)) 3 (some ⟨w.heap.size, 0, none⟩) n n (T3 ts) :=
  Rd.rowM w 28 3 n fr (T3 ts) (by rw [T3_len, hn]) (by unfold maxLen; omega) (T3_one ts)
theorem expand_known (w : World) (fr : Nat × Nat) (ts : List Tok) (cs : Array Value) (hc : (T3 ts).toArray = cs) (n : Nat) (hn : ts.length = n) (hl : n ≤ 1000) (o : List UInt8) (m : Nat) (r : Int) (hr : expand ts = (o, r)) (hm : o.length = m) :
    Calls Try.prog 9 #[.slice (some ⟨w.heap.size, 0, none⟩) n n] (w.alloc (.cells cs 28 fr)) fun e w' => ∃ a c, e = .returned (.tuple #[.slice a m c, .int .i64 r]) ∧ Own w' 5 1 w.heap.size a m c (B8 o) ∧ Below w.heap.size w w' := by
  subst hc hm
  refine (expand_law _ _ n n ts (Rd.lit3 w fr ts n hn hl) hl).mono ?_
  intro e w' h
  unfold ExpPost at h
  rw [hr] at h
  obtain ⟨a, c, rfl, ho, hb⟩ := h
  exact ⟨a, c, rfl, ho.lower (by simp), ((Below.refl _ w).alloc (Nat.le_refl _) _).trans (hb.mono (by simp))⟩
theorem sayE : expand [⟨0, 0, 97⟩, ⟨0, 0, 98⟩, ⟨4, 2, 0⟩] = ([97, 98, 97, 98, 97, 98], 0) := by decide +kernel

set_option maxRecDepth 100000 in
set_option maxHeartbeats 2000000 in
theorem says_any (w : World) : Calls Try.prog 11 #[] w fun e w' => e = .returned (.bool true) ∧ Below w.heap.size w w' := by
  go_enter Try.func11, Try.ntmps11
  go_wp2_with fail
  refine (length_law w 257).mono ?_
  rintro e w1 ⟨rfl, b1⟩
  rw [show q4 (lenT 257) = .tuple #[.int .i64 284, .int .i64 5, .int .i64 30, .int .i64 0] from rfl]
  go_wp2_with fail
  refine (distance_law w1 6).mono ?_
  rintro e w2 ⟨rfl, b2⟩
  rw [show q4 (disT 6) = .tuple #[.int .i64 4, .int .i64 1, .int .i64 1, .int .i64 0] from rfl]
  have c2 := b1.trans (b2.mono b1.size)
  go_wp2_with fail
  refine (expand_known w2 _ [⟨0, 0, 97⟩, ⟨0, 0, 98⟩, ⟨4, 2, 0⟩] _ rfl 3 rfl (by decide) _ 6 _ sayE rfl).mono ?_
  rintro e w3 ⟨a, c, rfl, o3, b3⟩
  have c3 := c2.trans (b3.mono c2.size)
  have s1 : (convert 23 9 (.slice a 6 c)).run Try.prog w3 = .ok (.string (bstr [97, 98, 97, 98, 97, 98])) w3 := rstr o3.rd
  have q1 : binOp .eql 9 (.string (bstr [97, 98, 97, 98, 97, 98])) (.string ⟨#[97, 98, 97, 98, 97, 98]⟩) = pure (.bool true) := eqC' _ [97, 98, 97, 98, 97, 98]
  clear o3
  go_wp2_with fail
  go_ret
  exact ⟨rfl, c3⟩
end Go.Proofs.Ytlmpooibpopcaaa
