/- What the laws of lcp share: contracts, the known answers. -/
import Derived.Test.YtlokjgmfhbgmcaaLcpD
namespace Go.Proofs.Ytlokjgmfhbgmcaa
set_option linter.unusedSimpArgs false
set_option linter.unusedVariables false
open Go.RowKit

theorem elB : ElTy Try.prog 22 5 (.int .u8 0) 1 1 := ⟨Try.underlying22, info_parts (by kernel_rfl), rfl, by decide⟩
/-- what Heights answers -/
def Hs (b : List UInt8) (o : List Nat) (xs : List Int) (err : Int) (hs : List Nat) : Prop :=
  (xs ≠ o.map (fun c : Nat => (c : Int)) ∧ err = 5 ∧ hs = []) ∨ (xs = o.map (fun c : Nat => (c : Int)) ∧ err = 0 ∧ hs = hgtL b o)
theorem Hs.unique {b : List UInt8} {o : List Nat} {xs : List Int} {e e' : Int} {h h' : List Nat} (p : Hs b o xs e h) (q : Hs b o xs e' h') : e = e' ∧ h = h' := by
  rcases p with ⟨p1, p2, p3⟩ | ⟨p1, p2, p3⟩ <;> rcases q with ⟨q1, q2, q3⟩ | ⟨q1, q2, q3⟩
  · exact ⟨by rw [p2, q2], by rw [p3, q3]⟩
  · exact absurd q1 p1
  · exact absurd p1 q1
  · exact ⟨by rw [p2, q2], by rw [p3, q3]⟩
theorem heights_hs (w : World) (ad : Option Addr) (n cap : Nat) (b : List UInt8) (hb : Rd w 1 ad n cap (B8 b)) (hn : n ≤ 100000) (rd : Option Addr) (m rc : Nat) (xs : List Int) (hx : Rd w 1 rd m rc (I64 xs)) (o : List Nat) (ho : Ordered b false o) :
    Calls Try.prog 9 #[.slice ad n cap, .slice rd m rc] w fun e w' => ∃ a k c err hs, e = .returned (.tuple #[.slice a k c, .int .i64 err]) ∧ Own w' 3 1 w.heap.size a k c (N64 hs) ∧ Hs b o xs err hs ∧ Below w.heap.size w w' :=
  (heights_law w ad n cap b hb hn rd m rc xs hx o ho).mono fun e w' ⟨bel, h⟩ => by
    rcases h with ⟨h1, h2⟩ | ⟨h1, g, h2, h3⟩
    · exact ⟨none, 0, 0, 5, [], h2, Own.nil _ _ _ _, .inl ⟨h1, rfl, rfl⟩, bel⟩
    · exact ⟨_, n, n, 0, _, h2, h3, .inr ⟨h1, rfl, rfl⟩, bel⟩
theorem refHeights_hs (w : World) (ad : Option Addr) (n cap : Nat) (b : List UInt8) (hb : Rd w 1 ad n cap (B8 b)) (hn : n ≤ 100000) (rd : Option Addr) (m rc : Nat) (xs : List Int) (hx : Rd w 1 rd m rc (I64 xs)) (o : List Nat) (ho : Ordered b false o) :
    Calls Try.prog 10 #[.slice ad n cap, .slice rd m rc] w fun e w' => ∃ a k c err hs, e = .returned (.tuple #[.slice a k c, .int .i64 err]) ∧ Own w' 3 1 w.heap.size a k c (N64 hs) ∧ Hs b o xs err hs ∧ Below w.heap.size w w' :=
  (refHeights_law w ad n cap b hb hn rd m rc xs hx o ho).mono fun e w' ⟨bel, h⟩ => by
    rcases h with ⟨h1, h2⟩ | ⟨h1, g, h2, h3⟩
    · exact ⟨none, 0, 0, 5, [], h2, Own.nil _ _ _ _, .inl ⟨h1, rfl, rfl⟩, bel⟩
    · exact ⟨_, n, n, 0, _, h2, h3, .inr ⟨h1, rfl, rfl⟩, bel⟩
theorem same_nat (w : World) (ad bd : Option Addr) (n cap m bc : Nat) (xs ys : List Nat) (hx : Rd w 1 ad n cap (N64 xs)) (hy : Rd w 1 bd m bc (N64 ys)) (h : xs = ys) :
    Calls Try.prog 11 #[.slice ad n cap, .slice bd m bc] w fun e w' => e = .returned (.bool true) ∧ Below w.heap.size w w' := by
  rw [N64_I64] at hx hy
  exact (same_law w ad bd n cap m bc _ _ hx hy).mono fun e w' ⟨h1, h2⟩ => ⟨by rw [h1, h]; simp, h2⟩
theorem Rd.lit8 (w : World) (fr : Nat × Nat) (b : List UInt8) (hl : b.length ≤ 100000) : Rd (w.alloc (.cells (B8 b).toArray 5 fr)) 1 (some ⟨w.heap.size, 0, none⟩) b.length b.length (B8 b) :=
  Rd.rowM w 5 1 b.length fr (B8 b) (by rw [B8_len]; omega) (by unfold maxLen; omega) (B8_one b)
theorem Rd.litI (w : World) (xs : List Int) (hl : xs.length ≤ 100000) : Rd (w.alloc (.cells (I64 xs).toArray 3)) 1 (some ⟨w.heap.size, 0, none⟩) xs.length xs.length (I64 xs) :=
  Rd.row w 3 1 xs.length (I64 xs) (by rw [I64_len]; omega) (by unfold maxLen; omega) (I64_one xs)
theorem heights_lit (w : World) (fr : Nat × Nat) (b : List UInt8) (xs : List Int) (o : List Nat) (ho : Ordered b false o) (hb : b.length ≤ 100000) (hx : xs.length ≤ 100000) (err : Int) (hs : List Nat) (hh : Hs b o xs err hs) :
    Calls Try.prog 9 #[.slice (some ⟨w.heap.size, 0, none⟩) b.length b.length, .slice (some ⟨w.heap.size + 1, 0, none⟩) xs.length xs.length] ((w.alloc (.cells (B8 b).toArray 5 fr)).alloc (.cells (I64 xs).toArray 3)) fun e w' =>
      ∃ a c, e = .returned (.tuple #[.slice a hs.length c, .int .i64 err]) ∧ Own w' 3 1 w.heap.size a hs.length c (N64 hs) ∧ Below w.heap.size w w' := by
  have hr := Rd.litI (w.alloc (.cells (B8 b).toArray 5 fr)) xs hx
  rw [World.size_alloc] at hr
  refine (heights_hs _ _ _ _ b ((Rd.lit8 w fr b hb).alloc _) hb _ _ _ xs hr o ho).mono ?_
  rintro e w' ⟨a, k, c, err', hs', rfl, h1, h2, h3⟩
  obtain ⟨rfl, rfl⟩ := hh.unique h2
  have hk := h1.rd.lenN
  subst hk
  exact ⟨a, c, rfl, h1.lower (by simp; omega), (((Below.refl _ w).alloc (Nat.le_refl _) _).alloc (by simp) _).trans (h3.mono (by simp; omega))⟩
theorem common_lit (w : World) (xs : List Int) (p q : Int) (hx : xs.length ≤ 100000) (r : Int) (err : Int) (hr : cmmI xs p q = (r, err)) :
    Calls Try.prog 13 #[.slice (some ⟨w.heap.size, 0, none⟩) xs.length xs.length, .int .i64 p, .int .i64 q] (w.alloc (.cells (I64 xs).toArray 3)) fun e w' => e = .returned (.tuple #[.int .i64 r, .int .i64 err]) ∧ Below w.heap.size w w' :=
  (common_law _ _ _ _ xs (Rd.litI w xs hx) hx p q).mono fun e w' ⟨h1, h2⟩ => ⟨by rw [h1, hr], ((Below.refl _ w).alloc (Nat.le_refl _) _).trans (h2.mono (by simp))⟩
theorem same_lit (w : World) (ad : Option Addr) (n cap lo : Nat) (o : List Nat) (ys : List Int) (ho : Own w 3 1 lo ad n cap (N64 o)) (h : (o.map fun c : Nat => (c : Int)) = ys) (hl : ys.length ≤ 100000) :
    Calls Try.prog 11 #[.slice ad n cap, .slice (some ⟨w.heap.size, 0, none⟩) ys.length ys.length] (w.alloc (.cells (I64 ys).toArray 3)) fun e w' => e = .returned (.bool true) ∧ Below w.heap.size w w' := by
  have hr := (ho.alloc (.cells (I64 ys).toArray 3)).rd
  rw [N64_I64] at hr
  exact (same_law _ _ _ _ _ _ _ _ ys hr (Rd.litI w ys hl)).mono fun e w' ⟨h1, h2⟩ => ⟨by rw [h1, h]; simp, ((Below.refl _ w).alloc (Nat.le_refl _) _).trans (h2.mono (by simp))⟩

theorem ban_ends : Ordered [98, 97, 110, 97, 110, 97] false [5, 3, 1, 0, 4, 2] := Ordered.mk' _ _ _ (fun x => by simp; omega) rfl (by decide +kernel)
theorem ban_hs : Hs [98, 97, 110, 97, 110, 97] [5, 3, 1, 0, 4, 2] [5, 3, 1, 0, 4, 2] 0 [0, 1, 3, 0, 0, 2] := .inr ⟨by decide, rfl, by decide +kernel⟩

set_option maxRecDepth 100000 in
set_option maxHeartbeats 2000000 in
theorem known_any (w : World) : Calls Try.prog 12 #[] w fun e w' => e = .returned (.bool true) ∧ Below w.heap.size w w' := by
  have kc := fun (w : World) (C : Array Value) (n c : Nat) => Lib.run_convert_bytes_const (P := Try.prog) w 22 5 C n c Try.underlying22 Try.underlying5
  go_enter Try.func12, Try.ntmps12
  go_wp2_with fail
  refine (heights_lit w _ [98, 97, 110, 97, 110, 97] [5, 3, 1, 0, 4, 2] _ ban_ends (by decide) (by decide) _ _ ban_hs).mono ?_
  rintro e w1 ⟨a1, k1, rfl, o1, b1⟩
  go_wp2_with fail
  refine (common_lit w1 [0, 1, 3, 0, 0, 2] 0 2 (by decide) 1 0 (by decide +kernel)).mono ?_
  rintro e w2 ⟨rfl, b2⟩
  have c2 := b1.trans (b2.mono b1.size)
  have o2 := o1.below b2
  clear o1 b1 b2
  go_wp2_with fail
  refine (same_lit w2 _ _ _ _ _ [0, 1, 3, 0, 0, 2] o2 (by decide) (by decide)).mono ?_
  rintro e w3 ⟨rfl, b3⟩
  have c3 := c2.trans (b3.mono c2.size)
  clear c2 b3 o2
  go_wp2_with fail
  go_ret
  exact ⟨rfl, c3⟩
end Go.Proofs.Ytlokjgmfhbgmcaa
