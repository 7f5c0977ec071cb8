/- The law NearGrows, walked. -/
import Derived.Test.YtkijfooijchilaaNearS
import Derived.Test.YtkijfooijchilaaMore
namespace Go.Proofs.Ytkijfooijchilaa
set_option linter.unusedSimpArgs false
set_option linter.unusedVariables false
open Go.RowKit

theorem atI_left (xs ys : List Int) (k : Nat) (h : k < xs.length) : atI (xs ++ ys) k = atI xs k := by simp [atI, List.getD_eq_getElem?_getD, List.getElem?_append_left h]
theorem atI_right (xs ys : List Int) (k : Nat) : atI (xs ++ ys) (xs.length + k) = atI ys k := by simp [atI, List.getD_eq_getElem?_getD, List.getElem?_append_right]
theorem bk_left (xs ys : List Int) (j : Nat) (h : j < xs.length) : bk (xs ++ ys) j = bk xs j := by
  obtain ⟨s1, s2, s3⟩ := bk_spec xs j
  refine bk_of _ _ _ s1 (fun k h1 h2 => ?_) (fun h0 => ?_)
  · rw [atI_left _ _ _ h, atI_left _ _ _ (by omega)]; exact s2 k h1 h2
  · rw [atI_left _ _ _ h, atI_left _ _ _ (by omega)]; exact s3 h0
theorem fw_right (xs ys : List Int) (j : Nat) (h : j < ys.length) : fw (xs ++ ys) (xs.length + j) = xs.length + fw ys j := by
  obtain ⟨s1, s2, s3, s4⟩ := fw_spec ys j h
  refine fw_of _ _ _ (by simp; omega) (by omega) (by simp; omega) (fun k h1 h2 => ?_) (fun h0 => ?_)
  · obtain ⟨d, rfl⟩ : ∃ d, k = xs.length + d := ⟨k - xs.length, by omega⟩
    rw [atI_right, atI_right]; exact s3 d (by omega) (by omega)
  · rw [atI_right, atI_right]; exact s4 (by simp at h0; omega)
theorem ahead_take (xs ys : List Int) (n m : Nat) (h : n = xs.length) : (refAhead (xs ++ ys) (n + m)).take n = refAhead xs n := by
  apply atI_ext (by simp [refAhead_len])
  intro j hj
  simp [refAhead_len] at hj
  have : atI ((refAhead (xs ++ ys) (n + m)).take n) j = atI (refAhead (xs ++ ys) (n + m)) j := by simp [atI, List.getD_eq_getElem?_getD, List.getElem?_take, hj]
  rw [this, atI_ahead _ _ _ (by omega), atI_ahead _ _ _ hj, bk_left _ _ _ (by omega)]

theorem same_yes (w : World) (ad bd : Option Addr) (n cap m bc : Nat) (xs ys : List Int) (hx : Rd w 1 ad n cap (I64 xs)) (hy : Rd w 1 bd m bc (I64 ys)) (h : xs = ys) :
    Calls Try.prog 9 #[.slice ad n cap, .slice bd m bc] w fun e w' => e = .returned (.bool true) ∧ Below w.heap.size w w' :=
  (same_law w ad bd n cap m bc xs ys hx hy).mono fun e w' ⟨h1, h2⟩ => ⟨by rw [h1, h]; simp, h2⟩

set_option maxRecDepth 100000 in
set_option maxHeartbeats 4000000 in
theorem nearGrows_law (w : World) (ad : Option Addr) (n cap : Nat) (xs : List Int) (hb : Rd w 1 ad n cap (I64 xs)) (hg : ∀ z ∈ xs, -9223372036854775808 ≤ z ∧ z ≤ 9223372036854775807)
    (bd : Option Addr) (m bcap : Nat) (ys : List Int) (hy : Rd w 1 bd m bcap (I64 ys)) (hg' : ∀ z ∈ ys, -9223372036854775808 ≤ z ∧ z ≤ 9223372036854775807) :
    Calls Try.prog 6 #[.slice ad n cap, .slice bd m bcap] w fun e w' => e = .returned (.bool true) ∧ Below w.heap.size w w' := by
  clear hg hg'
  by_cases hn : 300 < n
  · go_enter Try.func6, Try.ntmps6
    go_wp2
    go_ret
    exact ⟨rfl, Below.refl _ _⟩
  by_cases hm : 300 < m
  · go_enter Try.func6, Try.ntmps6
    go_wp2
    go_ret
    exact ⟨rfl, Below.refl _ _⟩
  · have hl := hb.lenI
    have HL := Lib.hid hl; clear hl
    have hl2 := hy.lenI
    have HL2 := Lib.hid hl2; clear hl2
    go_enter Try.func6, Try.ntmps6
    go_upto_region 3 with fail
    go_wp2_with (first | (refine wpList_clone rfl (.tmp 18) (.tmp 19) _ rfl tI rfl rfl hb (by unfold maxLen; omega) (by omega) ?_; intro ai ci w1 hi hb1 hs1; have hy1 := hy.below hb1; have hsz1 := hb1.size; have HS1 := Lib.hid hsz1; clear hsz1) | (refine wpList_app rfl (.tmp 20) (.tmp 21) _ rfl tI rfl rfl hi hy1 (by unfold maxLen; omega) (by omega) HS1.out ?_; intro aj cj w2 hj r2 _))
    have hb2 : Below w.heap.size w w2 := Own.grown hb1 hi r2 HS1.out (Nat.le_refl _)
    rw [I64_app] at hj
    have hbx := hb.below hb2
    have hyx := hy.below hb2
    clear hi r2 hy1 hb hy hb1
    refine (ahead_any _ _ _ _ _ hj.rd (by omega)).mono ?_
    rintro e w3 ⟨g3, rfl, o3, b3⟩
    have c3 := hb2.trans (b3.mono hb2.size)
    rw [show (xs ++ ys).length = n + m by rw [List.length_append, HL.out, HL2.out]] at o3
    have hj3 := hj.below b3
    go_wp2_with fail
    refine (behind_any _ _ _ _ _ hj3.rd (by omega)).mono ?_
    rintro e w4 ⟨g4, rfl, o4, b4⟩
    have c4 := c3.trans (b4.mono c3.size)
    rw [show (xs ++ ys).length = n + m by rw [List.length_append, HL.out, HL2.out]] at o4
    have o3' := o3.below b4
    have hy4 := hyx.below (b3.trans (b4.mono b3.size))
    go_wp2_with fail
    refine (behind_any _ _ _ _ _ hy4 (by omega)).mono ?_
    rintro e w5 ⟨g5, rfl, o5, b5⟩
    have c5 := c4.trans (b5.mono c4.size)
    rw [HL2.out] at o5
    have o35 := o3'.below b5
    have o45 := o4.below b5
    have hx5 := hbx.below (b3.trans ((b4.trans (b5.mono b4.size)).mono b3.size))
    clear o3 o3' o4 hj hj3 hbx hyx hy4 b3 b4 b5 c3 c4 hb2
    go_wp2_with fail
    go_loopg [9] m (fun k i wr => ∃ j : Nat, j ≤ m ∧ k = m - j ∧ i = .int .i64 j ∧ Below w5.heap.size w5 wr)
    case atStart => exact ⟨0, Nat.zero_le _, by simp, rfl, Below.refl _ _⟩
    case round =>
      obtain ⟨j, hj, rfl, rfl, hbi⟩ := hrel
      rename World => wi
      have ob := (o45.below hbi)
      have oc := (o5.below hbi)
      by_cases hlt : j < m
      · obtain ⟨cb, _⟩ := ob.read (I64_get _ (n + j) (by rw [refBehind_len]; omega))
        obtain ⟨cc, _⟩ := oc.read (I64_get _ j (by rw [refBehind_len]; omega))
        rw [atI_behind _ _ _ (by omega)] at cb
        rw [atI_behind _ _ _ hlt] at cc
        have hf := fw_right xs ys j (by rw [HL2.out]; exact hlt)
        have hfs := (fw_spec ys j (by rw [HL2.out]; exact hlt)).2.1
        rw [HL2.out] at hfs
        rw [HL.out] at hf
        rw [hf] at cb
        clear hf
        generalize fw ys j = f at *
        have hz3 := Lib.hid hbi; clear hbi
        go_upto_region 12 with fail
        (try simp only [List.append])
        refine wp_region_quiet_lit (by kernel_rfl) (by kernel_rfl) ?_
        repeat (go_big_quiet_step (fail))
        refine wpQuiet_nil ?_
        intro _ hw'
        obtain ⟨nq, hw''⟩ := hw'
        subst hw''
        go_wp2_with fail
        go_roundg (m - (j + 1))
        case measure => omega
        case rel => exact ⟨j + 1, by omega, rfl, by simp, bDraws hz3.out _⟩
      · obtain rfl : m = j := by omega
        have oa := (o35.below hbi)
        have hxi := hx5.below hbi
        have c6 := (c5.trans (hbi.mono c5.size)).drew
        have hsh := (oa.shrink (j := n) (by omega)).drew
        rw [Nat.mul_one, show (I64 (refAhead (xs ++ ys) (n + m))).take n = I64 (refAhead xs n) by
          rw [← ahead_take xs ys n m HL.out.symm]; simp [I64, List.map_take]] at hsh
        clear oa ob oc o35 o45 o5
        go_upto_region 14 with fail
        have hxd := hxi.drew
        clear hxi
        have hnm : (n : Int) ≤ (n : Int) + (m : Int) := by omega
        go_region_held3 (fun _ => True) (trivial) (first
          | (go_at_call 10; refine (ahead_any _ _ _ _ _ hxd (by omega)).mono ?_; rintro e w7 ⟨g7, rfl, o7, b7⟩; have o7' := o7.rd; rw [HL.out] at o7'; have hs7 := (hsh.below b7).rd; have c7 := c6.trans (b7.mono c6.size))
          | (go_at_call 9; refine (same_yes _ _ _ _ _ _ _ _ _ hs7 o7' rfl).mono ?_; rintro e w8 ⟨rfl, b8⟩; have c8 := c7.trans (b8.mono c7.size))
          | (go_at_call 14; refine (finds_any _).mono ?_; rintro e w9 ⟨rfl, b9⟩; have c9 := c8.trans (b9.mono c8.size)))
        go_wp2_with fail
        go_ret
        exact ⟨rfl, c9⟩
end Go.Proofs.Ytkijfooijchilaa
