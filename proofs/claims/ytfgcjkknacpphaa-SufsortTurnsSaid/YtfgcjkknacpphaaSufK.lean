/- What the laws of sufsort share: contracts by the order alone; the known answers. -/
import Derived.Test.YtfgcjkknacpphaaSufJ
import Derived.Test.YtfgcjkknacpphaaSufI
import Derived.Test.YtfgcjkknacpphaaSame
namespace Go.Proofs.Ytfgcjkknacpphaa
set_option linter.unusedSimpArgs false
set_option linter.unusedVariables false
open Go.RowKit

theorem elB : ElTy Try.prog 22 5 (.int .u8 0) 1 1 := ⟨Try.underlying22, info_parts (by kernel_rfl), rfl, by decide⟩
/-- what Places answers -/
def Pl (xs : List Int) (out : List Nat) : Prop := (¬ Good xs ∧ out = []) ∨ (Good xs ∧ Inv xs out)
theorem Pl.unique {xs : List Int} {a b : List Nat} (ha : Pl xs a) (hb : Pl xs b) : a = b := by
  rcases ha with ⟨h1, rfl⟩ | ⟨h1, h2⟩
  · rcases hb with ⟨_, rfl⟩ | ⟨h3, _⟩
    · rfl
    · exact absurd h3 h1
  · rcases hb with ⟨h3, _⟩ | ⟨_, h3⟩
    · exact absurd h1 h3
    · exact Inv.unique h1 h2 h3
theorem places_any (w : World) (ad : Option Addr) (n cap : Nat) (xs : List Int) (hb : Rd w 1 ad n cap (I64 xs)) (hn : n ≤ 100000) :
    Calls Try.prog 14 #[.slice ad n cap] w fun e w' =>
      ∃ a m c out, e = .returned (.slice a m c) ∧ Own w' 3 1 w.heap.size a m c (N64 out) ∧ Pl xs out ∧ Below w.heap.size w w' :=
  (places_law w ad n cap xs hb hn).mono fun e w' ⟨h, b⟩ => by
    rcases h with ⟨h1, rfl⟩ | ⟨h1, g, out, rfl, h2, h3⟩
    · exact ⟨none, 0, 0, [], rfl, Own.nil _ _ _ _, .inl ⟨h1, rfl⟩, b⟩
    · exact ⟨_, n, n, out, rfl, h2, .inr ⟨h1, h3⟩, b⟩
theorem refPlaces_any (w : World) (ad : Option Addr) (n cap : Nat) (xs : List Int) (hb : Rd w 1 ad n cap (I64 xs)) (hn : n ≤ 100000) :
    Calls Try.prog 15 #[.slice ad n cap] w fun e w' =>
      ∃ a m c out, e = .returned (.slice a m c) ∧ Own w' 3 1 w.heap.size a m c (N64 out) ∧ Pl xs out ∧ Below w.heap.size w w' :=
  (refPlaces_law w ad n cap xs hb hn).mono fun e w' ⟨h, b⟩ => by
    rcases h with ⟨h1, rfl⟩ | ⟨h1, g, out, rfl, h2, h3⟩
    · exact ⟨none, 0, 0, [], rfl, Own.nil _ _ _ _, .inl ⟨h1, rfl⟩, b⟩
    · exact ⟨_, n, n, out, rfl, h2, .inr ⟨h1, h3⟩, b⟩
/-- an order holds each place once -/
theorem Ordered.good {b : List UInt8} {r : Bool} {o : List Nat} (h : Ordered b r o) : Good (o.map fun c : Nat => (c : Int)) :=
  Good.ofNat h.len (fun p hp => h.ord.lt hp) (fun p q hp hq e => h.ord.inj hp hq e)

theorem same_nat (w : World) (ad bd : Option Addr) (n cap m bc : Nat) (xs ys : List Nat) (hx : Rd w 1 ad n cap (N64 xs)) (hy : Rd w 1 bd m bc (N64 ys)) (h : xs = ys) :
    Calls Try.prog 9 #[.slice ad n cap, .slice bd m bc] w fun e w' => e = .returned (.bool true) ∧ Below w.heap.size w w' := by
  rw [N64_I64] at hx hy
  exact (same_law w ad bd n cap m bc _ _ hx hy).mono fun e w' ⟨h1, h2⟩ => ⟨by rw [h1, h]; simp, h2⟩
theorem same_int (w : World) (ad bd : Option Addr) (n cap m bc : Nat) (xs ys : List Int) (hx : Rd w 1 ad n cap (I64 xs)) (hy : Rd w 1 bd m bc (I64 ys)) (h : xs = ys) :
    Calls Try.prog 9 #[.slice ad n cap, .slice bd m bc] w fun e w' => e = .returned (.bool true) ∧ Below w.heap.size w w' :=
  (same_law w ad bd n cap m bc _ _ hx hy).mono fun e w' ⟨h1, h2⟩ => ⟨by rw [h1, h]; simp, h2⟩

/-! known answers -/
theorem ends_known (w : World) (fr : Nat × Nat) (b : List UInt8) (o : List Nat) (h : Ordered b false o) (hl : b.length ≤ 100000) :
    Calls Try.prog 10 #[.slice (some ⟨w.heap.size, 0, none⟩) b.length b.length] (w.alloc (.cells (B8 b).toArray 5 fr)) fun e w' =>
      ∃ g, e = .returned (.slice (some ⟨g, 0, none⟩) b.length b.length) ∧ Own w' 3 1 w.heap.size (some ⟨g, 0, none⟩) b.length b.length (N64 o) ∧ Below w.heap.size w w' :=
  (ends_law _ _ _ _ b (Rd.rowM w 5 1 b.length fr (B8 b) (by rw [B8_len]; omega) (by unfold maxLen; omega) (B8_one b)) hl).mono fun e w' ⟨g, o', h1, h2, h3, h4⟩ =>
    ⟨g, h1, by rw [← h3.unique h]; exact h2.lower (by simp), ((Below.refl _ w).alloc (Nat.le_refl _) _).trans (h4.mono (by simp))⟩
theorem rotations_known (w : World) (fr : Nat × Nat) (b : List UInt8) (o : List Nat) (h : Ordered b true o) (hl : b.length ≤ 100000) :
    Calls Try.prog 12 #[.slice (some ⟨w.heap.size, 0, none⟩) b.length b.length] (w.alloc (.cells (B8 b).toArray 5 fr)) fun e w' =>
      ∃ g, e = .returned (.slice (some ⟨g, 0, none⟩) b.length b.length) ∧ Own w' 3 1 w.heap.size (some ⟨g, 0, none⟩) b.length b.length (N64 o) ∧ Below w.heap.size w w' :=
  (rotations_law _ _ _ _ b (Rd.rowM w 5 1 b.length fr (B8 b) (by rw [B8_len]; omega) (by unfold maxLen; omega) (B8_one b)) hl).mono fun e w' ⟨g, o', h1, h2, h3, h4⟩ =>
    ⟨g, h1, by rw [← h3.unique h]; exact h2.lower (by simp), ((Below.refl _ w).alloc (Nat.le_refl _) _).trans (h4.mono (by simp))⟩
theorem places_known (w : World) (xs : List Int) (o : List Nat) (h : Pl xs o) (hl : xs.length ≤ 100000) :
    Calls Try.prog 14 #[.slice (some ⟨w.heap.size, 0, none⟩) xs.length xs.length] (w.alloc (.cells (I64 xs).toArray 3)) fun e w' =>
      ∃ a c, e = .returned (.slice a o.length c) ∧ Own w' 3 1 w.heap.size a o.length c (N64 o) ∧ Below w.heap.size w w' :=
  (places_any _ _ _ _ xs (Rd.row w 3 1 xs.length (I64 xs) (by rw [I64_len]; omega) (by unfold maxLen; omega) (I64_one xs)) hl).mono fun e w' ⟨a, m, c, o', h1, h2, h3, h4⟩ => by
    have e := h3.unique h
    subst e
    have hm := h2.rd.lenN
    subst hm
    exact ⟨a, c, h1, h2.lower (by simp), ((Below.refl _ w).alloc (Nat.le_refl _) _).trans (h4.mono (by simp))⟩
theorem same_known (w : World) (ad : Option Addr) (n cap lo : Nat) (o : List Nat) (ys : List Int) (ho : Own w 3 1 lo ad n cap (N64 o)) (h : (o.map fun c : Nat => (c : Int)) = ys) (hl : ys.length ≤ 100000) :
    Calls Try.prog 9 #[.slice ad n cap, .slice (some ⟨w.heap.size, 0, none⟩) ys.length ys.length] (w.alloc (.cells (I64 ys).toArray 3)) fun e w' => e = .returned (.bool true) ∧ Below w.heap.size w w' := by
  have hr := (ho.alloc (.cells (I64 ys).toArray 3)).rd
  rw [N64_I64] at hr
  exact (same_int _ _ _ _ _ _ _ _ ys hr (Rd.row w 3 1 ys.length (I64 ys) (by rw [I64_len]; omega) (by unfold maxLen; omega) (I64_one ys)) h).mono fun e w' ⟨h1, h2⟩ =>
    ⟨h1, ((Below.refl _ w).alloc (Nat.le_refl _) _).trans (h2.mono (by simp))⟩

theorem ban_ends : Ordered [98, 97, 110, 97, 110, 97] false [5, 3, 1, 0, 4, 2] := Ordered.mk' _ _ _ (fun x => by simp; omega) rfl (by decide +kernel)
theorem ban_rot : Ordered [98, 97, 110, 97, 110, 97] true [5, 3, 1, 0, 4, 2] := Ordered.mk' _ _ _ (fun x => by simp; omega) rfl (by decide +kernel)
theorem abab_rot : Ordered [97, 98, 97, 98] true [0, 2, 1, 3] := Ordered.mk' _ _ _ (fun x => by simp; omega) rfl (by decide +kernel)
theorem pl_201 : Pl [2, 0, 1] [1, 2, 0] := by
  have hg : Good [2, 0, 1] := Good.ofNat (o := [2, 0, 1]) (n := 3) rfl (by decide) (fun p q hp hq => (show ∀ p, p < 3 → ∀ q, q < 3 → atN [2, 0, 1] p = atN [2, 0, 1] q → p = q by decide) p hp q hq)
  refine .inr ⟨hg, rfl, by decide⟩

set_option maxRecDepth 100000 in
set_option maxHeartbeats 2000000 in
theorem sorts_any (w : World) : Calls Try.prog 13 #[] w fun e w' => e = .returned (.bool true) ∧ Below w.heap.size w w' := by
  have kc := fun (w : World) (C : Array Value) (n c : Nat) => Lib.run_convert_bytes_const (P := Try.prog) w 22 5 C n c Try.underlying22 Try.underlying5
  go_enter Try.func13, Try.ntmps13
  go_wp2_with fail
  refine (ends_known w _ [98, 97, 110, 97, 110, 97] _ ban_ends (by decide)).mono ?_
  rintro e w1 ⟨g, rfl, o1, b1⟩
  go_wp2_with fail
  refine (same_known w1 _ _ _ _ _ [5, 3, 1, 0, 4, 2] o1 rfl (by decide)).mono ?_
  rintro e w2 ⟨rfl, b2⟩
  have c2 := b1.trans (b2.mono b1.size)
  clear b1 b2 o1
  go_wp2_with fail
  refine (rotations_known w2 _ [97, 98, 97, 98] _ abab_rot (by decide)).mono ?_
  rintro e w3 ⟨g3, rfl, o3, b3⟩
  have c3 := c2.trans (b3.mono c2.size)
  clear c2 b3
  go_wp2_with fail
  refine (same_known w3 _ _ _ _ _ [0, 2, 1, 3] o3 rfl (by decide)).mono ?_
  rintro e w4 ⟨rfl, b4⟩
  have c4 := c3.trans (b4.mono c3.size)
  clear c3 b4 o3
  go_wp2_with fail
  refine (places_known w4 [2, 0, 1] _ pl_201 (by decide)).mono ?_
  rintro e w5 ⟨a5, c5', rfl, o5, b5⟩
  have c5 := c4.trans (b5.mono c4.size)
  clear c4 b5
  go_wp2_with fail
  refine (same_known w5 _ _ _ _ _ [1, 2, 0] o5 rfl (by decide)).mono ?_
  rintro e w6 ⟨rfl, b6⟩
  have c6 := c5.trans (b6.mono c5.size)
  clear c5 b6 o5
  go_wp2_with fail
  go_ret
  exact ⟨rfl, c6⟩
end Go.Proofs.Ytfgcjkknacpphaa
