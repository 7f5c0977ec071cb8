/- What the laws of rle share: contracts, the known answers. -/
import Derived.Test.YtjlhhbbciaeggaaRleI
import Derived.Test.YtjlhhbbciaeggaaStr
namespace Go.Proofs.Ytjlhhbbciaeggaa
set_option linter.unusedSimpArgs false
set_option linter.unusedVariables false
open Go.RowKit

theorem rstr {w : World} {ad : Option Addr} {n cap : Nat} {xs : List UInt8} (h : Rd w 1 ad n cap (B8 xs)) : (convert 22 9 (.slice ad n cap)).run Try.prog w = .ok (.string (bstr xs)) w :=
  run_str Try.underlying22 Try.underlying5 Try.underlying9 h
/-- a text and a constant -/
theorem eqC' (t : TypeId) (xs : List UInt8) : binOp .eql t (.string (bstr xs)) (.string (bstr xs)) = pure (.bool true) := by rw [text_eql]; simp

theorem Rd.lit8 (w : World) (fr : Nat × Nat) (b : List UInt8) (hl : b.length ≤ 100000) : Rd (w.alloc (.cells (B8 b).toArray 5 fr)) 1 (some ⟨w.heap.size, 0, none⟩) b.length b.length (B8 b) :=
  Rd.rowM w 5 1 b.length fr (B8 b) (by rw [B8_len]; omega) (by unfold maxLen; omega) (B8_one b)

theorem pack_ok (w : World) (ad : Option Addr) (n cap : Nat) (b : List UInt8) (hb : Rd w 1 ad n cap (B8 b)) (hn : n ≤ 100000) (room : Nat) (h5 : 5 ≤ room) (hr1 : room ≤ 100000) :
    Calls Try.prog 8 #[.slice ad n cap, .int .i64 (room : Int)] w fun e w' => Below w.heap.size w w' ∧ ∃ k a c, Stop b room k ∧ e = .returned (.tuple #[.slice a (pkO b k).length c, .int .i64 (offP b k : Int), .int .i64 0]) ∧ Own w' 5 1 w.heap.size a (pkO b k).length c (B8 (pkO b k)) :=
  (pack_law w ad n cap b hb hn room (by omega)).mono fun e w' ⟨h1, h2⟩ => by
    rcases h2 with ⟨h2, _⟩ | ⟨_, h2⟩
    · omega
    · exact ⟨h1, h2⟩
theorem pack_one (w : World) (ad : Option Addr) (n cap : Nat) (b : List UInt8) (hb : Rd w 1 ad n cap (B8 b)) (hn : n ≤ 100000) (room : Nat) (h5 : 5 ≤ room) (hr1 : room ≤ 100000)
    (k : Nat) (hs : Stop b room k) (o : List UInt8) (ho : pkO b k = o) (m : Nat) (hm : o.length = m) (u : Nat) (hu : offP b k = u) :
    Calls Try.prog 8 #[.slice ad n cap, .int .i64 (room : Int)] w fun e w' => ∃ a c, e = .returned (.tuple #[.slice a m c, .int .i64 (u : Int), .int .i64 0]) ∧ Own w' 5 1 w.heap.size a m c (B8 o) ∧ Below w.heap.size w w' :=
  (pack_ok w ad n cap b hb hn room h5 hr1).mono fun e w' ⟨h1, k', a, c, h2, h3, h4⟩ => by
    obtain rfl := hs.unique h2
    subst hm; subst ho; subst hu
    exact ⟨a, c, h3, h4, h1⟩
theorem pack_known (w : World) (fr : Nat × Nat) (b : List UInt8) (hl : b.length ≤ 100000) (room : Nat) (h5 : 5 ≤ room) (hr1 : room ≤ 100000)
    (k : Nat) (hs : Stop b room k) (o : List UInt8) (ho : pkO b k = o) (m : Nat) (hm : o.length = m) (u : Nat) (hu : offP b k = u) :
    Calls Try.prog 8 #[.slice (some ⟨w.heap.size, 0, none⟩) b.length b.length, .int .i64 (room : Int)] (w.alloc (.cells (B8 b).toArray 5 fr)) fun e w' =>
      ∃ a c, e = .returned (.tuple #[.slice a m c, .int .i64 (u : Int), .int .i64 0]) ∧ Own w' 5 1 w.heap.size a m c (B8 o) ∧ Below w.heap.size w w' :=
  (pack_one _ _ _ _ b (Rd.lit8 w fr b hl) hl room h5 hr1 k hs o ho m hm u hu).mono fun e w' ⟨a, c, h1, h3, h4⟩ =>
    ⟨a, c, h1, h3.lower (by simp), ((Below.refl _ w).alloc (Nat.le_refl _) _).trans (h4.mono (by simp))⟩
theorem unpack_ok (w : World) (ad : Option Addr) (n cap : Nat) (p : List UInt8) (hb : Rd w 1 ad n cap (B8 p)) (hn : n ≤ 10000) (keep : Nat) (hk1 : keep ≤ 100000)
    (o : List UInt8) (ho : (say p).take keep = o) (m : Nat) (hm : o.length = m) (s : Nat) (hs : (say p).length = s) :
    Calls Try.prog 11 #[.slice ad n cap, .int .i64 (keep : Int)] w fun e w' => ∃ a c, e = .returned (.tuple #[.agg #[.slice a m c, .int .i64 (s : Int), .int .i64 (n : Int), .bool false], .int .i64 0]) ∧ Own w' 5 1 w.heap.size a m c (B8 o) ∧ Below w.heap.size w w' :=
  (unpack_law w ad n cap p hb hn keep (by omega)).mono fun e w' ⟨h1, h2⟩ => by
    rcases h2 with ⟨h2, _⟩ | ⟨_, a, c, h3, h4⟩
    · omega
    · have : min (say p).length keep = m := by rw [← hm, ← ho, List.length_take]; omega
      rw [Int.toNat_natCast, this] at h3 h4
      subst ho; subst hs
      exact ⟨a, c, h3, h4, h1⟩
theorem unpack_known (w : World) (fr : Nat × Nat) (p : List UInt8) (hl : p.length ≤ 10000) (keep : Nat) (hk1 : keep ≤ 100000)
    (o : List UInt8) (ho : (say p).take keep = o) (m : Nat) (hm : o.length = m) (s : Nat) (hs : (say p).length = s) :
    Calls Try.prog 11 #[.slice (some ⟨w.heap.size, 0, none⟩) p.length p.length, .int .i64 (keep : Int)] (w.alloc (.cells (B8 p).toArray 5 fr)) fun e w' =>
      ∃ a c, e = .returned (.tuple #[.agg #[.slice a m c, .int .i64 (s : Int), .int .i64 (p.length : Int), .bool false], .int .i64 0]) ∧ Own w' 5 1 w.heap.size a m c (B8 o) ∧ Below w.heap.size w w' :=
  (unpack_ok _ _ _ _ p (Rd.lit8 w fr p (by omega)) hl keep hk1 o ho m hm s hs).mono fun e w' ⟨a, c, h1, h3, h4⟩ =>
    ⟨a, c, h1, h3.lower (by simp), ((Below.refl _ w).alloc (Nat.le_refl _) _).trans (h4.mono (by simp))⟩

theorem stop7 : Stop [97, 97, 97, 97, 97, 97, 98] 9 2 := ⟨by decide +kernel, by decide +kernel, by decide +kernel⟩
theorem pk7 : pkO [97, 97, 97, 97, 97, 97, 98] 2 = [97, 97, 97, 97, 2, 98] := by decide +kernel
theorem say10 : (say [97, 97, 97, 97, 0, 97, 97, 97, 97, 1]).take 99 = [97, 97, 97, 97, 97, 97, 97, 97, 97] := by decide +kernel

set_option maxRecDepth 100000 in
set_option maxHeartbeats 2000000 in
theorem packs_any (w : World) : Calls Try.prog 10 #[] w fun e w' => e = .returned (.bool true) ∧ Below w.heap.size w w' := by
  have kc := fun (w : World) (C : Array Value) (n c : Nat) => Lib.run_convert_bytes_const (P := Try.prog) w 22 5 C n c Try.underlying22 Try.underlying5
  go_enter Try.func10, Try.ntmps10
  go_wp2_with fail
  refine (pack_known w _ [97, 97, 97, 97, 97, 97, 98] (by decide) 9 (by decide) (by decide) 2 stop7 _ pk7 6 rfl 7 (by decide +kernel)).mono ?_
  rintro e w1 ⟨a1, c1', rfl, o1, b1⟩
  go_wp2_with fail
  refine (unpack_known w1 _ [97, 97, 97, 97, 0, 97, 97, 97, 97, 1] (by decide) 99 (by decide) _ say10 9 rfl 9 (by decide +kernel)).mono ?_
  rintro e w2 ⟨a2, c2', rfl, o2, b2⟩
  have c2 := b1.trans (b2.mono b1.size)
  have s1 : ∀ o, (convert 22 9 (.slice a1 6 c1')).run Try.prog (w2.alloc o) = .ok (.string (bstr [97, 97, 97, 97, 2, 98])) (w2.alloc o) := fun o => rstr ((o1.rd.below b2).alloc o)
  have s2 : ∀ o, (convert 22 9 (.slice a2 9 c2')).run Try.prog (w2.alloc o) = .ok (.string (bstr [97, 97, 97, 97, 97, 97, 97, 97, 97])) (w2.alloc o) := fun o => rstr (o2.rd.alloc o)
  have q1 : binOp .eql 9 (.string (bstr [97, 97, 97, 97, 2, 98])) (.string ⟨#[97, 97, 97, 97, 2, 98]⟩) = pure (.bool true) := eqC' _ [97, 97, 97, 97, 2, 98]
  have q2 : binOp .eql 9 (.string (bstr [97, 97, 97, 97, 97, 97, 97, 97, 97])) (.string ⟨#[97, 97, 97, 97, 97, 97, 97, 97, 97]⟩) = pure (.bool true) := eqC' _ [97, 97, 97, 97, 97, 97, 97, 97, 97]
  clear o1 o2
  go_wp2_with fail
  go_ret
  exact ⟨rfl, c2.alloc c2.size _⟩
end Go.Proofs.Ytjlhhbbciaeggaa
