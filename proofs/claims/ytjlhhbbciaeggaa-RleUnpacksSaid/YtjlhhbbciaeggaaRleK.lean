/- The document's Unpack: the walk. -/
import Derived.Test.YtjlhhbbciaeggaaRleI
import Derived.Test.YtjlhhbbciaeggaaStr
import Derived.Test.YtjlhhbbciaeggaaRleF
namespace Go.Proofs.Ytjlhhbbciaeggaa
set_option linter.unusedSimpArgs false
set_option linter.unusedVariables false
open Go.RowKit

def RefUnPost (w : World) (p : List UInt8) (n : Nat) (keep : Int) (e : Ending) (w' : World) : Prop :=
  Below w.heap.size w w' ∧ ((keep < 0 ∧ e = .returned (.tuple #[.agg #[.slice none 0 0, .int .i64 0, .int .i64 0, .bool false], .int .i64 5])) ∨
    (0 ≤ keep ∧ ∃ a c, e = .returned (.tuple #[.agg #[.slice a (min (say p).length keep.toNat) c, .int .i64 ((say p).length : Int), .int .i64 (n : Int), .bool false], .int .i64 0]) ∧ Rd w' 1 a (min (say p).length keep.toNat) c (B8 ((say p).take keep.toNat))))

theorem um_len : ∀ (xs : List UInt8) (d : UInt8) (r : Nat), (um d r xs).length ≤ 255 * xs.length
  | [], _, _ => Nat.zero_le _
  | c :: xs, d, r => by
    rw [um]
    split
    · have := um_len xs c 0
      have := c.toNat_lt
      simp only [List.length_append, List.length_replicate, List.length_cons]; omega
    · have := um_len xs c ((if 0 < r ∧ c ≠ d then 0 else r) + 1)
      simp only [List.length_cons]; omega
theorem say_len (p : List UInt8) : (say p).length ≤ 255 * p.length := um_len p 0 0

set_option maxRecDepth 100000 in
set_option maxHeartbeats 4000000 in
theorem refUnpack_law (w : World) (ad : Option Addr) (n cap : Nat) (p : List UInt8) (hb : Rd w 1 ad n cap (B8 p)) (hn : n ≤ 10000) (keep : Int) (hk1 : keep ≤ 9223372036854775807) :
    Calls Try.prog 12 #[.slice ad n cap, .int .i64 keep] w (RefUnPost w p n keep) := by
  have hl := hb.len8
  have HL := Lib.hid hl; clear hl
  obtain ⟨B, hB⟩ : ∃ B, w.heap.size = B := ⟨_, rfl⟩
  have hz : ∀ w : World, (zeroValue 29).run Try.prog w = .ok (.agg #[.slice none 0 0, .int .i64 0, .int .i64 0, .bool false]) w := fun w => by kernel_rfl
  by_cases hlo : keep < 0
  · have hb1 : Below w.heap.size w (w.alloc (.cells #[.slice none 0 0, .int .i64 0, .int .i64 0, .bool false] 29)) := (Below.refl _ w).alloc (Nat.le_refl _) _
    have HB1 := Lib.hid hb1; clear hb1
    go_enter Try.func12, Try.ntmps12
    go_wp2
    refine ⟨rfl, .tuple #[.agg #[.slice none 0 0, .int .i64 0, .int .i64 0, .bool false], .int .i64 5], ?res, ?post⟩
    case res =>
      rw [results_cell_tmp rfl]
      go_simp
    case post => exact ⟨HB1.out, .inl ⟨hlo, rfl⟩⟩
  · obtain ⟨kp, rfl⟩ : ∃ kp : Nat, keep = (kp : Int) := ⟨keep.toNat, by omega⟩
    go_enter Try.func12, Try.ntmps12
    have n0 := four_own w 29 (.slice none 0 0) (.int .i64 0) (.int .i64 0) (.bool false) rfl rfl rfl rfl
    have bel : Below w.heap.size w (w.alloc (.cells #[.slice none 0 0, .int .i64 0, .int .i64 0, .bool false] 29)) := (Below.refl _ w).alloc (Nat.le_refl _) _
    have sz : (w.alloc (.cells #[.slice none 0 0, .int .i64 0, .int .i64 0, .bool false] 29)).heap.size = B + 1 := by simp [hB]
    rw [hB] at n0 bel
    go_wp2_with fail
    generalize w.alloc (.cells #[.slice none 0 0, .int .i64 0, .int .i64 0, .bool false] 29) = wz at *
    clear hz
    refine (refSay_law wz ad n cap p (hb.below (show Below w.heap.size w wz by rw [hB]; exact bel)) hn).mono ?_
    rintro e w2 ⟨a, c, rfl, oo, b2⟩
    rw [sz] at oo b2
    have bel2 := bel.trans (b2.mono (Nat.le_succ B))
    have n2 := n0.keep (w' := w2) fun g hg => by cases hg; exact b2.block _ (by omega)
    have hsl := say_len p
    rw [HL.out] at hsl
    have r2 := oo.rd
    have hne := oo.shape
    have hoB : ∀ x, a = some x → x.block ≠ B := fun x hx => by
      have h1 := oo.shape x hx
      have h2 := (oo.blk (g := x.block) (by rw [hx, ← h1])).1
      omega
    have hLc := r2.ncap
    obtain ⟨L, hL⟩ : ∃ L, (say p).length = L := ⟨_, rfl⟩
    rw [hL] at hsl r2 hLc ⊢
    obtain ⟨q, hq⟩ : ∃ q, min L kp = q := ⟨_, rfl⟩
    have hqL : q ≤ L := by omega
    have rq := r2.to8 q hqL
    have hqk : (say p).take q = (say p).take kp := by rw [← hq, ← hL]; rw [List.take_eq_take_iff]; omega
    rw [hqk] at rq
    have two : q = L ∧ L < kp ∨ q = kp ∧ ¬ L < kp := by omega
    clear hqk b2 bel n0 sz oo hne r2
    have q0 := Own.read n2 (j := 0) rfl
    have q1 := Own.read n2 (j := 1) rfl
    have q2 := Own.read n2 (j := 2) rfl
    have q3 := Own.read n2 (j := 3) rfl
    have hbB : Below B w ((((w2.setCell ⟨B, 0, none⟩ (.slice a q c)).setCell ⟨B, 1, none⟩ (.int .i64 (L : Int))).setCell ⟨B, 2, none⟩ (.int .i64 (n : Int))).setCell ⟨B, 3, none⟩ (.bool false)) :=
      (((bel2.setCell (by simp) _).setCell (by simp) _).setCell (by simp) _).setCell (by simp) _
    have rB := (((rq.setOther ⟨B, 0, none⟩ (.slice a q c) (fun x hx => hoB x hx)).setOther ⟨B, 1, none⟩ (.int .i64 (L : Int)) (fun x hx => hoB x hx)).setOther ⟨B, 2, none⟩ (.int .i64 (n : Int)) (fun x hx => hoB x hx)).setOther ⟨B, 3, none⟩ (.bool false) (fun x hx => hoB x hx)
    have oN := (((n2.set 0 (.slice a q c) rfl).set 1 (.int .i64 (L : Int)) rfl).set 2 (.int .i64 (n : Int)) rfl).set 3 (.bool false) rfl
    have OO := Lib.hid rB; clear rB rq
    have BEL := Lib.hid hbB; clear hbB bel2
    have HQ := Lib.hid hq; clear hq
    have f0 := (Own.read oN (j := 0) rfl).1
    have f1 := (Own.read oN (j := 1) rfl).1
    have f2 := (Own.read oN (j := 2) rfl).1
    have f3 := (Own.read oN (j := 3) rfl).1
    clear oN hoB n2
    rcases two with ⟨rfl, hkl⟩ | ⟨rfl, hkl⟩
    · go_wp2_with fail
      refine ⟨rfl, .tuple #[.agg #[.slice a q c, .int .i64 (q : Int), .int .i64 (n : Int), .bool false], .int .i64 0], ?res1, ?post1⟩
      case res1 =>
        rw [results_cell_tmp rfl]
        go_simp
      case post1 =>
        refine ⟨by rw [hB]; exact BEL.out, .inr ⟨by omega, a, c, ?_, ?_⟩⟩
        · rw [hL, Int.toNat_natCast, HQ.out]
        · rw [hL, Int.toNat_natCast, HQ.out]
          exact OO.out
    · go_wp2_with fail
      refine ⟨rfl, .tuple #[.agg #[.slice a q c, .int .i64 (L : Int), .int .i64 (n : Int), .bool false], .int .i64 0], ?res2, ?post2⟩
      case res2 =>
        rw [results_cell_tmp rfl]
        go_simp
      case post2 =>
        refine ⟨by rw [hB]; exact BEL.out, .inr ⟨by omega, a, c, ?_, ?_⟩⟩
        · rw [hL, Int.toNat_natCast, HQ.out]
        · rw [hL, Int.toNat_natCast, HQ.out]
          exact OO.out
end Go.Proofs.Ytjlhhbbciaeggaa
