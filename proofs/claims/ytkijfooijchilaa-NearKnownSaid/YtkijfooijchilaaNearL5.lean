/- The law NearKnown, walked. -/
import Derived.Test.YtkijfooijchilaaNearS
import Derived.Test.YtkijfooijchilaaMore
namespace Go.Proofs.Ytkijfooijchilaa
set_option linter.unusedSimpArgs false
set_option linter.unusedVariables false
open Go.RowKit

/-- the first m numbers of a row told by a function -/
def row (f : Nat → Int) (m : Nat) : List Int := (List.range m).map f
theorem row_succ (f : Nat → Int) (m : Nat) : row f (m + 1) = row f m ++ [f m] := by simp [row, List.range_succ]
theorem row_len (f : Nat → Int) (m : Nat) : (row f m).length = m := by simp [row]
theorem atI_row (f : Nat → Int) (m k : Nat) (h : k < m) : atI (row f m) k = f k := by simp [atI, row, List.getD_eq_getElem?_getD, h]

theorem bk_up (m j : Nat) (h : j < m) : bk (row (fun k => (k : Int)) m) j = j := by
  refine bk_of _ _ _ (Nat.le_refl _) (fun k h1 h2 => by omega) (fun h0 => ?_)
  rw [atI_row _ _ _ (by omega), atI_row _ _ _ h]; omega
theorem fw_up (m j : Nat) (h : j < m) : fw (row (fun k => (k : Int)) m) j = m := by
  refine fw_of _ _ _ (by rw [row_len]; exact h) h (by rw [row_len]; exact Nat.le_refl _) (fun k h1 h2 => ?_) (fun h0 => by rw [row_len] at h0; omega)
  rw [atI_row _ _ j h, atI_row _ _ k h2]; omega
theorem bk_down (m j : Nat) (h : j < m) : bk (row (fun k => -(k : Int)) m) j = 0 := by
  refine bk_of _ _ _ (Nat.zero_le _) (fun k h1 h2 => ?_) (fun h0 => by omega)
  rw [atI_row _ _ j h, atI_row _ _ k (by omega)]; omega
theorem fw_down (m j : Nat) (h : j < m) : fw (row (fun k => -(k : Int)) m) j = j + 1 := by
  refine fw_of _ _ _ (by rw [row_len]; exact h) (by omega) (by rw [row_len]; omega) (fun k h1 h2 => by omega) (fun h0 => ?_)
  rw [row_len] at h0
  rw [atI_row _ _ _ (by omega), atI_row _ _ _ h]; omega
theorem bk_same (m j : Nat) (h : j < m) : bk (row (fun _ => 7) m) j = 0 := by
  refine bk_of _ _ _ (Nat.zero_le _) (fun k h1 h2 => ?_) (fun h0 => by omega)
  rw [atI_row _ _ j h, atI_row _ _ k (by omega)]; omega
theorem fw_same (m j : Nat) (h : j < m) : fw (row (fun _ => 7) m) j = m := by
  refine fw_of _ _ _ (by rw [row_len]; exact h) h (by rw [row_len]; exact Nat.le_refl _) (fun k h1 h2 => ?_) (fun h0 => by rw [row_len] at h0; omega)
  rw [atI_row _ _ j h, atI_row _ _ k h2]; omega

set_option maxRecDepth 100000 in
set_option maxHeartbeats 4000000 in
theorem nearKnown_law (w : World) :
    Calls Try.prog 7 #[] w fun e w' => e = .returned (.bool true) ∧ Below w.heap.size w w' := by
  obtain ⟨u, hu⟩ : ∃ u : Nat → Int, u = fun k : Nat => (k : Int) := ⟨_, rfl⟩
  obtain ⟨d, hd⟩ : ∃ u : Nat → Int, u = fun k : Nat => -(k : Int) := ⟨_, rfl⟩
  obtain ⟨s, hs⟩ : ∃ u : Nat → Int, u = fun _ => 7 := ⟨_, rfl⟩
  have HU := Lib.hid hu; clear hu
  have HD := Lib.hid hd; clear hd
  have HS := Lib.hid hs; clear hs
  go_enter Try.func7, Try.ntmps7
  go_wp2_with fail
  go_loopg [1, 2, 3, 4] 300 (fun k x y t i wr => ∃ (j : Nat), j ≤ 300 ∧ k = 300 - j ∧ i = .int .i64 j ∧ Below w.heap.size w wr ∧ ∃ a c a' c' a'' c'', x = .slice a j c ∧ y = .slice a' j c' ∧ t = .slice a'' j c'' ∧
    Own wr 3 1 w.heap.size a j c (I64 (row u j)) ∧ Own wr 3 1 w.heap.size a' j c' (I64 (row d j)) ∧ Own wr 3 1 w.heap.size a'' j c'' (I64 (row s j)) ∧ Apart a a' ∧ Apart a a'' ∧ Apart a' a'')
  case atStart => exact ⟨0, Nat.zero_le _, rfl, rfl, Below.refl _ _, none, 0, none, 0, none, 0, rfl, rfl, rfl, Own.nil _ _ _ _, Own.nil _ _ _ _, Own.nil _ _ _ _, Apart.none_left _, Apart.none_left _, Apart.none_left _⟩
  case round =>
    obtain ⟨j, hj, rfl, rfl, hbr, a, c, a', c', a'', c'', rfl, rfl, rfl, o1, o2, o3, p12, p13, p23⟩ := hrel
    rename World => wr
    by_cases hlt : j < 300
    · have h63 : j + 1 ≤ maxLen := by unfold maxLen; omega
      have hby : (j + 1) * 8 ≤ 140737488355328 := by omega
      have H1 := Lib.hid h63; clear h63
      have H2 := Lib.hid hby; clear hby
      have hsz := hbr.size
      have H3 := Lib.hid hsz; clear hsz
      go_upto_region 5 with fail
      go_wp2_with (first
        | (refine wpList_push rfl (.tmp 16) (.tmp 18) _ rfl tI rfl rfl o1 (ys := [.int .i64 (j : Int)]) rfl (by simp [Value.oneCell']) H1.out H2.out H3.out ?_; intro b1 e1 w1 q1 r1 n1
           have o2' := o2.apart r1 p12 o1.shape; have o3' := o3.apart r1 p13 o1.shape; have p12' := p12.grow o2 n1; have p13' := p13.grow o3 n1; have hb1 := Own.grown hbr o1 r1 H3.out (Nat.le_refl _); have H4 := Lib.hid hb1.size; clear o1 o2 o3 p12 p13 r1 n1)
        | (refine wpList_push rfl (.tmp 20) (.tmp 23) _ rfl tI rfl rfl o2' (ys := [.int .i64 (-(j : Int))]) rfl (by simp [Value.oneCell']) H1.out H2.out H4.out ?_; intro b2 e2 w2 q2 r2 n2
           have q1' := q1.apart r2 p12'.symm o2'.shape; have o3'' := o3'.apart r2 p23 o2'.shape; have p12'' := (p12'.symm.grow q1 n2).symm; have p23' := p23.grow o3' n2; have hb2 := Own.grown hb1 o2' r2 H4.out (Nat.le_refl _); have H5 := Lib.hid hb2.size; clear q1 o2' o3' p12' p23 r2 n2)
        | (refine wpList_push rfl (.tmp 25) (.tmp 26) _ rfl tI rfl rfl o3'' (ys := [.int .i64 7]) rfl (by simp [Value.oneCell']) H1.out H2.out H5.out ?_; intro b3 e3 w3 q3 r3 n3))
      go_roundg (300 - (j + 1))
      case measure => omega
      case rel =>
        refine ⟨j + 1, by omega, rfl, by simp, Own.grown hb2 o3'' r3 H5.out (Nat.le_refl _), b1, e1, b2, e2, b3, e3, rfl, rfl, rfl, ?_, ?_, ?_, p12'', (p13'.symm.grow q1' n3).symm, (p23'.symm.grow q2 n3).symm⟩
        · rw [row_succ, ← I64_app, HU.out]; rw [HU.out] at q1'
          exact q1'.apart r3 p13'.symm o3''.shape
        · rw [row_succ, ← I64_app, HD.out]; rw [HD.out] at q2
          exact q2.apart r3 p23'.symm o3''.shape
        · rw [row_succ, ← I64_app, HS.out]; rw [HS.out] at q3
          exact q3
    · obtain rfl : j = 300 := by omega
      have r1 := o1.rd; have r2 := o2.rd; have r3 := o3.rd
      clear o1 o2 o3 p12 p13 p23
      go_wp2_with fail
      refine (ahead_any _ _ _ _ _ r1 (by omega)).mono ?_
      rintro e w1 ⟨g1, rfl, q1, b1⟩
      have c1 := hbr.trans (b1.mono hbr.size)
      go_wp2_with fail
      refine (behind_any _ _ _ _ _ (r1.below b1) (by omega)).mono ?_
      rintro e w2 ⟨g2, rfl, q2, b2⟩
      have c2 := c1.trans (b2.mono c1.size)
      have d2 := b1.trans (b2.mono b1.size)
      have q12 := q1.below b2
      go_wp2_with fail
      refine (ahead_any _ _ _ _ _ (r2.below d2) (by omega)).mono ?_
      rintro e w3 ⟨g3, rfl, q3, b3⟩
      have c3 := c2.trans (b3.mono c2.size)
      have d3 := d2.trans (b3.mono d2.size)
      have q13 := q12.below b3
      have q23 := q2.below b3
      clear q1 q2 q12 b1 b2
      go_wp2_with fail
      refine (behind_any _ _ _ _ _ (r2.below d3) (by omega)).mono ?_
      rintro e w4 ⟨g4, rfl, q4, b4⟩
      have c4 := c3.trans (b4.mono c3.size)
      have d4 := d3.trans (b4.mono d3.size)
      have q14 := q13.below b4
      have q24 := q23.below b4
      have q34 := q3.below b4
      clear q13 q23 q3 b3
      go_wp2_with fail
      refine (ahead_any _ _ _ _ _ (r3.below d4) (by omega)).mono ?_
      rintro e w5 ⟨g5, rfl, q5, b5⟩
      have c5 := c4.trans (b5.mono c4.size)
      have d5 := d4.trans (b5.mono d4.size)
      have q15 := q14.below b5
      have q25 := q24.below b5
      have q35 := q34.below b5
      have q45 := q4.below b5
      clear q14 q24 q34 q4 b4
      go_wp2_with fail
      refine (behind_any _ _ _ _ _ (r3.below d5) (by omega)).mono ?_
      rintro e w6 ⟨g6, rfl, q6, b6⟩
      have c6 := c5.trans (b6.mono c5.size)
      have q16 := q15.below b6
      have q26 := q25.below b6
      have q36 := q35.below b6
      have q46 := q45.below b6
      have q56 := q5.below b6
      clear q15 q25 q35 q45 q5 b5 b6 r1 r2 r3 d2 d3 d4 d5 c1 c2 c3 c4 c5
      rw [row_len] at q16 q26 q36 q46 q56 q6
      go_wp2_with fail
      go_loopg [11] 300 (fun k i wr => ∃ j : Nat, j ≤ 300 ∧ k = 300 - j ∧ i = .int .i64 j ∧ w6 = wr)
      case atStart => exact ⟨0, Nat.zero_le _, by simp, rfl, rfl⟩
      case round =>
        obtain ⟨j, hj, rfl, rfl, rfl⟩ := hrel
        by_cases hlt : j < 300
        · obtain ⟨k1, _⟩ := q16.read (I64_get _ j (by rw [refAhead_len]; omega))
          obtain ⟨k2, _⟩ := q26.read (I64_get _ j (by rw [refBehind_len]; omega))
          obtain ⟨k3, _⟩ := q36.read (I64_get _ j (by rw [refAhead_len]; omega))
          obtain ⟨k4, _⟩ := q46.read (I64_get _ j (by rw [refBehind_len]; omega))
          obtain ⟨k5, _⟩ := q56.read (I64_get _ j (by rw [refAhead_len]; omega))
          obtain ⟨k6, _⟩ := q6.read (I64_get _ j (by rw [refBehind_len]; omega))
          rw [atI_ahead _ _ _ hlt, HU.out, bk_up _ _ hlt] at k1
          rw [atI_behind _ _ _ hlt, HU.out, fw_up _ _ hlt, show ((300 : Nat) : Int) = 300 from rfl] at k2
          rw [atI_ahead _ _ _ hlt, HD.out, bk_down _ _ hlt, show ((0 : Nat) : Int) - 1 = -1 from rfl] at k3
          rw [atI_behind _ _ _ hlt, HD.out, fw_down _ _ hlt, show ((j + 1 : Nat) : Int) = (j : Int) + 1 by omega] at k4
          rw [atI_ahead _ _ _ hlt, HS.out, bk_same _ _ hlt, show ((0 : Nat) : Int) - 1 = -1 from rfl] at k5
          rw [atI_behind _ _ _ hlt, HS.out, fw_same _ _ hlt, show ((300 : Nat) : Int) = 300 from rfl] at k6
          go_wp2_with fail
          go_roundg (300 - (j + 1))
          case measure => omega
          case rel => exact ⟨j + 1, by omega, rfl, by simp, rfl⟩
        · obtain rfl : j = 300 := by omega
          have e0 := Rd.empty w6 1
          clear q16 q26 q36 q46 q56 q6
          go_wp2_with fail
          refine (ahead_any w6 none 0 0 [] e0 (by omega)).mono ?_
          rintro e w7 ⟨g7, rfl, q7, b7⟩
          have c7 := c6.trans (b7.mono c6.size)
          clear q7 b7
          go_wp2_with fail
          refine (behind_any w7 none 0 0 [] (Rd.empty w7 1) (by omega)).mono ?_
          rintro e w8 ⟨g8, rfl, q8, b8⟩
          have c8 := c7.trans (b8.mono c7.size)
          clear q8 b8
          go_wp2_with fail
          refine (finds_any _).mono ?_
          rintro e w9 ⟨rfl, b9⟩
          go_wp2_with fail
          go_ret
          exact ⟨rfl, c8.trans (b9.mono c8.size)⟩
end Go.Proofs.Ytkijfooijchilaa
