/- The law RleBack, walked. -/
import Derived.Test.YtjlhhbbciaeggaaRleJ
namespace Go.Proofs.Ytjlhhbbciaeggaa
set_option linter.unusedSimpArgs false
set_option linter.unusedVariables false
open Go.RowKit

theorem back_facts {r : List UInt8} {room k m : Nat} (hs : Stop r room k) (hm : r.length = m) (h0 : 0 < m) (h5 : 5 ≤ room) :
    1 ≤ offP r k ∧ offP r k ≤ m ∧ (pkO r k).length ≤ room ∧ 4 * (pkO r k).length ≤ 5 * offP r k ∧ (offP r k < m → room < (pkO r k).length + 5) := by
  subst hm
  have hpl : ∀ k, k < (pcs r).length → (pkO r (k + 1)).length ≤ (pkO r k).length + 5 := fun k hk => by
    rw [pkO_succ r k hk, List.length_append, pkd_len]; split <;> omega
  have hne : 0 < (pcs r).length := by
    rcases Nat.eq_zero_or_pos (pcs r).length with h | h
    · have := offP_all r; rw [h, offP_zero] at this; omega
    · exact h
  refine ⟨?_, offP_le r k, hs.fits, pkO_rate r k, fun h => ?_⟩
  · cases k with
    | zero =>
      have := hs.more hne
      have h2 := hpl 0 hne
      rw [pkO_zero] at h2
      simp at h2; simp at this; omega
    | succ j =>
      have hj : j < (pcs r).length := by have := hs.le; omega
      rw [offP_succ r j hj]
      have := runN_pos (b := r.drop (offP r j)) (by rw [List.length_drop]; have := (pcs_get r j hj).1; omega)
      omega
  · have hk : k < (pcs r).length := by
      rcases Nat.lt_or_ge k (pcs r).length with h' | h'
      · exact h'
      · rw [Nat.le_antisymm hs.le h', offP_all] at h; omega
    have := hs.more hk
    have := hpl k hk
    omega
theorem pack_okI (w : World) (ad : Option Addr) (n cap : Nat) (b : List UInt8) (hb : Rd w 1 ad n cap (B8 b)) (hn : n ≤ 100000) (roomI : Int) (room : Nat) (hri : roomI = (room : Int)) (h5 : 5 ≤ room) (hr1 : room ≤ 100000) :
    Calls Try.prog 8 #[.slice ad n cap, .int .i64 roomI] w fun e w' => Below w.heap.size w w' ∧ ∃ k a c, Stop b room k ∧ e = .returned (.tuple #[.slice a (pkO b k).length c, .int .i64 (offP b k : Int), .int .i64 0]) ∧ Own w' 5 1 w.heap.size a (pkO b k).length c (B8 (pkO b k)) := by
  subst hri; exact pack_ok w ad n cap b hb hn room h5 hr1

def U16 (xs : List Nat) : List Value := xs.map fun z : Nat => Value.int .u16 (z : Int)

set_option maxRecDepth 100000 in
set_option maxHeartbeats 4000000 in
theorem rleBack_law (w : World) (ad : Option Addr) (n cap : Nat) (b : List UInt8) (hb0 : Rd w 1 ad n cap (B8 b)) (sd : Option Addr) (N sc : Nat) (rs : List Nat) (hr0 : Rd w 1 sd N sc (U16 rs)) (hr16 : ∀ z ∈ rs, z < 65536) :
    Calls Try.prog 5 #[.slice ad n cap, .slice sd N sc] w fun e w' => e = .returned (.bool true) ∧ Below w.heap.size w w' := by
  by_cases hg : 3000 < n
  · go_enter Try.func5, Try.ntmps5
    go_wp2_with fail
    go_ret
    exact ⟨rfl, Below.refl _ _⟩
  by_cases hg2 : 1000 < N
  · go_enter Try.func5, Try.ntmps5
    go_wp2_with fail
    go_ret
    exact ⟨rfl, Below.refl _ _⟩
  have hlb := hb0.len8
  have HLB := Lib.hid hlb; clear hlb
  go_enter Try.func5, Try.ntmps5
  go_wp2_with fail
  go_loopg [5, 6, 7] n (fun k v5 v6 v7 wr => ∃ (u m i : Nat) (a5 a6 : Option Addr) (c5 c6 : Nat), u + m = n ∧ i ≤ u ∧ m = k ∧ v5 = .slice a5 u c5 ∧ v6 = .slice a6 m c6 ∧ v7 = .int .i64 (i : Int) ∧ Below w.heap.size w wr ∧ Rd w 1 a6 m c6 (B8 (b.drop u)) ∧ Own wr 5 1 w.heap.size a5 u c5 (B8 (b.take u)))
  case atStart => exact ⟨0, n, 0, none, ad, 0, cap, by omega, Nat.le_refl _, rfl, rfl, rfl, rfl, Below.refl _ _, hb0, Own.nil _ _ _ _⟩
  case round =>
    obtain ⟨u, m, i, a5, a6, c5, c6, hum, hi, rfl, rfl, rfl, rfl, br, r60, o5⟩ := hrel
    rename World => wr
    have r6 := r60.below br
    have HR0 : Hid ((b.drop u).length = m) := Lib.hid (by rw [List.length_drop, HLB.out]; omega)
    by_cases hm : 0 < m
    · by_cases hi2 : i < N
      · obtain ⟨z, hz, hz16⟩ : ∃ z : Nat, (U16 rs)[i]? = some (.int .u16 (z : Int)) ∧ z < 65536 := by
          have hlr : rs.length = N := by have := hr0.len; simpa [U16] using this
          exact ⟨rs[i]'(by omega), by simp [U16, hlr, hi2], hr16 _ (List.getElem_mem _)⟩
        have kz := (hr0.below br).cellAt hz
        have nz := hr0.ne (by omega)
        obtain ⟨q, hq⟩ : ∃ q, z % 496 = q := ⟨_, rfl⟩
        have hq1 : q < 496 := by omega
        have hqi : (z : Int).tmod 496 = (q : Int) := by rw [← hq]; rfl
        clear hq hz
        go_upto_region 11 with fail
        clear hqi kz nz hz16
        go_wp2_with fail
        refine (pack_okI wr _ _ _ _ r6 (by omega) (5 + (q : Int)) (5 + q) (by omega) (by omega) (by omega)).mono ?_
        rintro e w2 ⟨b2, k, a2, k2, hst, rfl, o2⟩
        obtain ⟨f1, f2, f3, f4, f5⟩ := back_facts hst HR0.out hm (by omega)
        have hsay := say_pkO (b.drop u) k
        have htl : ((b.drop u).take (offP (b.drop u) k)).length = offP (b.drop u) k := by rw [List.length_take, HR0.out]; exact Nat.min_eq_left f2
        have c2 := br.trans (b2.mono br.size)
        have r62 := r6.below b2
        have o52 := o5.below b2
        clear r6 o5 b2 hst br
        generalize pkO (b.drop u) k = p at *
        generalize offP (b.drop u) k = d at *
        have rp := o2.rd
        clear o2
        obtain ⟨L, hL⟩ : ∃ L, p.length = L := ⟨_, rfl⟩
        rw [hL] at f3 f4 f5 rp ⊢
        have HTL := Lib.hid htl; clear htl
        have HSAY := Lib.hid hsay; clear hsay
        clear hL
        go_wp2_with fail
        refine (unpack_ok w2 a2 L k2 p rp (by omega) 5000 (by decide) ((b.drop u).take d) (by rw [HSAY.out, List.take_of_length_le (by rw [HTL.out]; omega)]) d HTL.out d (by rw [HSAY.out, HTL.out])).mono ?_
        rintro e w3 ⟨a3, k3, rfl, o3, b3⟩
        have c3 := c2.trans (b3.mono c2.size)
        have r63 := r62.below b3
        have o53 := o52.below b3
        have rf := o3.rd
        clear r62 o52 b3 o3 c2 rp HSAY
        go_upto_region 13 with fail
        have n3 := four_own w3 29 (.slice a3 d k3) (.int .i64 (d : Int)) (.int .i64 (L : Int)) (.bool false) rfl rfl rfl rfl
        have c4 := c3.alloc c3.size (.cells #[.slice a3 d k3, .int .i64 (d : Int), .int .i64 (L : Int), .bool false] 29)
        replace r63 := r63.alloc (.cells #[.slice a3 d k3, .int .i64 (d : Int), .int .i64 (L : Int), .bool false] 29)
        replace rf := rf.alloc (.cells #[.slice a3 d k3, .int .i64 (d : Int), .int .i64 (L : Int), .bool false] 29)
        replace o53 := o53.alloc (.cells #[.slice a3 d k3, .int .i64 (d : Int), .int .i64 (L : Int), .bool false] 29)
        generalize w3.alloc (.cells #[.slice a3 d k3, .int .i64 (d : Int), .int .i64 (L : Int), .bool false] 29) = w4 at *
        generalize w3.heap.size = B3 at *
        clear c3
        have e0 := (Own.read n3 (j := 0) rfl).1
        have s1 : ∀ k, (convert 22 9 (.slice a3 d k3)).run Try.prog (w4.drewN k) = .ok (.string (bstr ((b.drop u).take d))) (w4.drewN k) := fun k => rstr (rdDraws rf k)
        have s2 : ∀ k, (convert 22 9 (.slice a6 d c6)).run Try.prog (w4.drewN k) = .ok (.string (bstr ((b.drop u).take d))) (w4.drewN k) := fun k => rstr (rdDraws (r63.to8 d f2) k)
        have hcap := r63.ncap
        have hjc : (d : Int) ≤ (c6 : Int) := by omega
        have q1 : decide ((d : Int) < 1) = false := deF (by omega)
        have q2 : decide ((m : Int) < (d : Int)) = false := deF (by omega)
        have q2n : decide (m < d) = false := deF (by omega)
        have q3n : decide ((5 + q) < L) = false := deF (by omega)
        have q4n : decide (5 * d < 4 * L) = false := deF (by omega)
        have q3 : decide (((5 + (q : Int)) : Int) < (L : Int)) = false := deF (by omega)
        have q4 : decide (5 * (d : Int) < 4 * (L : Int)) = false := deF (by omega)
        rcases Nat.lt_or_ge d m with hlt2 | hge2
        · have q5 : decide ((d : Int) < (m : Int)) = true := deT (by omega)
          have q5n : decide (d < m) = true := deT (by omega)
          have q6b : decide ((L : Int) ≤ (5 + (q : Int) - 5)) = false := deF (by have := f5 hlt2; omega)
          have q6 : decide ((L : Int) ≤ (5 + (q : Int)) - 5) = false := deF (by have := f5 hlt2; omega)
          go_wp2_with fail
          (try simp only [List.append])
          refine wp_region_quiet_lit (by kernel_rfl) (by kernel_rfl) ?_
          repeat (go_big_quiet_step (fail))
          refine wpQuiet_nil ?_
          intro _ hw'
          obtain ⟨nq, hw''⟩ := hw'
          subst hw''
          replace c4 := bDraws c4 nq
          replace rf := rdDraws rf nq
          replace o53 := ownDraws o53 nq
          replace n3 := ownDraws n3 nq
          replace r63 := rdDraws r63 nq
          clear e0 s1 s2
          generalize w4.drewN nq = w5 at *
          have e0 := (Own.read n3 (j := 0) rfl).1
          clear n3
          go_upto_region 15 with fail
          go_upto_region 16 with (refine wpList_app rfl _ _ _ rfl elB rfl rfl o53 rf (by unfold maxLen; omega) (by omega) c4.size ?_; intro a7 c7 w7 o7 g7 n7)
          have c8 := Own.grown c4 o53 g7 c4.size (Nat.le_refl _)
          rw [B8_app, ← List.take_add] at o7
          have r7 := r60.from8 d f2
          rw [List.drop_drop] at r7
          have sl : ∀ W, (Instr.slice 22 (.slice a6 m c6) (some (.int .i64 (d : Int))) none none).run Try.prog W = .ok (.slice (cutA a6 d c6) (m - d) (c6 - d)) W := fun W => run_cut (P := Try.prog) elB.und (by kernel_rfl) r63 d f2 W
          try clear hge2
          clear r63 rf o53 g7 n7 c4 q1 q2 q3 q4 q5 q2n q3n q4n q5n
          go_wp2_with fail
          go_roundg (m - d)
          case measure => omega
          case rel => exact ⟨u + d, m - d, i + 1, a7, cutA a6 d c6, c7, c6 - d, by omega, by omega, rfl, rfl, rfl, by simp, c8, r7, o7⟩
        · have q5 : decide ((d : Int) < (m : Int)) = false := deF (by omega)
          have q5n : decide (d < m) = false := deF (by omega)
          go_wp2_with fail
          (try simp only [List.append])
          refine wp_region_quiet_lit (by kernel_rfl) (by kernel_rfl) ?_
          repeat (go_big_quiet_step (fail))
          refine wpQuiet_nil ?_
          intro _ hw'
          obtain ⟨nq, hw''⟩ := hw'
          subst hw''
          replace c4 := bDraws c4 nq
          replace rf := rdDraws rf nq
          replace o53 := ownDraws o53 nq
          replace n3 := ownDraws n3 nq
          replace r63 := rdDraws r63 nq
          clear e0 s1 s2
          generalize w4.drewN nq = w5 at *
          have e0 := (Own.read n3 (j := 0) rfl).1
          clear n3
          go_upto_region 15 with fail
          go_upto_region 16 with (refine wpList_app rfl _ _ _ rfl elB rfl rfl o53 rf (by unfold maxLen; omega) (by omega) c4.size ?_; intro a7 c7 w7 o7 g7 n7)
          have c8 := Own.grown c4 o53 g7 c4.size (Nat.le_refl _)
          rw [B8_app, ← List.take_add] at o7
          have r7 := r60.from8 d f2
          rw [List.drop_drop] at r7
          have sl : ∀ W, (Instr.slice 22 (.slice a6 m c6) (some (.int .i64 (d : Int))) none none).run Try.prog W = .ok (.slice (cutA a6 d c6) (m - d) (c6 - d)) W := fun W => run_cut (P := Try.prog) elB.und (by kernel_rfl) r63 d f2 W
          try clear hge2
          clear r63 rf o53 g7 n7 c4 q1 q2 q3 q4 q5 q2n q3n q4n q5n
          go_wp2_with fail
          go_roundg (m - d)
          case measure => omega
          case rel => exact ⟨u + d, m - d, i + 1, a7, cutA a6 d c6, c7, c6 - d, by omega, by omega, rfl, rfl, rfl, by simp, c8, r7, o7⟩
      · go_upto_region 11 with fail
        go_wp2_with fail
        refine (pack_okI wr _ _ _ _ r6 (by omega) (500 : Int) 500 rfl (by omega) (by omega)).mono ?_
        rintro e w2 ⟨b2, k, a2, k2, hst, rfl, o2⟩
        obtain ⟨f1, f2, f3, f4, f5⟩ := back_facts hst HR0.out hm (by omega)
        have hsay := say_pkO (b.drop u) k
        have htl : ((b.drop u).take (offP (b.drop u) k)).length = offP (b.drop u) k := by rw [List.length_take, HR0.out]; exact Nat.min_eq_left f2
        have c2 := br.trans (b2.mono br.size)
        have r62 := r6.below b2
        have o52 := o5.below b2
        clear r6 o5 b2 hst br
        generalize pkO (b.drop u) k = p at *
        generalize offP (b.drop u) k = d at *
        have rp := o2.rd
        clear o2
        obtain ⟨L, hL⟩ : ∃ L, p.length = L := ⟨_, rfl⟩
        rw [hL] at f3 f4 f5 rp ⊢
        have HTL := Lib.hid htl; clear htl
        have HSAY := Lib.hid hsay; clear hsay
        clear hL
        go_wp2_with fail
        refine (unpack_ok w2 a2 L k2 p rp (by omega) 5000 (by decide) ((b.drop u).take d) (by rw [HSAY.out, List.take_of_length_le (by rw [HTL.out]; omega)]) d HTL.out d (by rw [HSAY.out, HTL.out])).mono ?_
        rintro e w3 ⟨a3, k3, rfl, o3, b3⟩
        have c3 := c2.trans (b3.mono c2.size)
        have r63 := r62.below b3
        have o53 := o52.below b3
        have rf := o3.rd
        clear r62 o52 b3 o3 c2 rp HSAY
        go_upto_region 13 with fail
        have n3 := four_own w3 29 (.slice a3 d k3) (.int .i64 (d : Int)) (.int .i64 (L : Int)) (.bool false) rfl rfl rfl rfl
        have c4 := c3.alloc c3.size (.cells #[.slice a3 d k3, .int .i64 (d : Int), .int .i64 (L : Int), .bool false] 29)
        replace r63 := r63.alloc (.cells #[.slice a3 d k3, .int .i64 (d : Int), .int .i64 (L : Int), .bool false] 29)
        replace rf := rf.alloc (.cells #[.slice a3 d k3, .int .i64 (d : Int), .int .i64 (L : Int), .bool false] 29)
        replace o53 := o53.alloc (.cells #[.slice a3 d k3, .int .i64 (d : Int), .int .i64 (L : Int), .bool false] 29)
        generalize w3.alloc (.cells #[.slice a3 d k3, .int .i64 (d : Int), .int .i64 (L : Int), .bool false] 29) = w4 at *
        generalize w3.heap.size = B3 at *
        clear c3
        have e0 := (Own.read n3 (j := 0) rfl).1
        have s1 : ∀ k, (convert 22 9 (.slice a3 d k3)).run Try.prog (w4.drewN k) = .ok (.string (bstr ((b.drop u).take d))) (w4.drewN k) := fun k => rstr (rdDraws rf k)
        have s2 : ∀ k, (convert 22 9 (.slice a6 d c6)).run Try.prog (w4.drewN k) = .ok (.string (bstr ((b.drop u).take d))) (w4.drewN k) := fun k => rstr (rdDraws (r63.to8 d f2) k)
        have hcap := r63.ncap
        have hjc : (d : Int) ≤ (c6 : Int) := by omega
        have q1 : decide ((d : Int) < 1) = false := deF (by omega)
        have q2 : decide ((m : Int) < (d : Int)) = false := deF (by omega)
        have q2n : decide (m < d) = false := deF (by omega)
        have q3n : decide (500 < L) = false := deF (by omega)
        have q4n : decide (5 * d < 4 * L) = false := deF (by omega)
        have q3 : decide (((500 : Int) : Int) < (L : Int)) = false := deF (by omega)
        have q4 : decide (5 * (d : Int) < 4 * (L : Int)) = false := deF (by omega)
        rcases Nat.lt_or_ge d m with hlt2 | hge2
        · have q5 : decide ((d : Int) < (m : Int)) = true := deT (by omega)
          have q5n : decide (d < m) = true := deT (by omega)
          have q6b : decide ((L : Int) ≤ 495) = false := deF (by have := f5 hlt2; omega)
          have q6 : decide ((L : Int) ≤ (500 : Int) - 5) = false := deF (by have := f5 hlt2; omega)
          go_wp2_with fail
          (try simp only [List.append])
          refine wp_region_quiet_lit (by kernel_rfl) (by kernel_rfl) ?_
          repeat (go_big_quiet_step (fail))
          refine wpQuiet_nil ?_
          intro _ hw'
          obtain ⟨nq, hw''⟩ := hw'
          subst hw''
          replace c4 := bDraws c4 nq
          replace rf := rdDraws rf nq
          replace o53 := ownDraws o53 nq
          replace n3 := ownDraws n3 nq
          replace r63 := rdDraws r63 nq
          clear e0 s1 s2
          generalize w4.drewN nq = w5 at *
          have e0 := (Own.read n3 (j := 0) rfl).1
          clear n3
          go_upto_region 15 with fail
          go_upto_region 16 with (refine wpList_app rfl _ _ _ rfl elB rfl rfl o53 rf (by unfold maxLen; omega) (by omega) c4.size ?_; intro a7 c7 w7 o7 g7 n7)
          have c8 := Own.grown c4 o53 g7 c4.size (Nat.le_refl _)
          rw [B8_app, ← List.take_add] at o7
          have r7 := r60.from8 d f2
          rw [List.drop_drop] at r7
          have sl : ∀ W, (Instr.slice 22 (.slice a6 m c6) (some (.int .i64 (d : Int))) none none).run Try.prog W = .ok (.slice (cutA a6 d c6) (m - d) (c6 - d)) W := fun W => run_cut (P := Try.prog) elB.und (by kernel_rfl) r63 d f2 W
          try clear hge2
          clear r63 rf o53 g7 n7 c4 q1 q2 q3 q4 q5 q2n q3n q4n q5n
          go_wp2_with fail
          go_roundg (m - d)
          case measure => omega
          case rel => exact ⟨u + d, m - d, i + 1, a7, cutA a6 d c6, c7, c6 - d, by omega, by omega, rfl, rfl, rfl, by simp, c8, r7, o7⟩
        · have q5 : decide ((d : Int) < (m : Int)) = false := deF (by omega)
          have q5n : decide (d < m) = false := deF (by omega)
          go_wp2_with fail
          (try simp only [List.append])
          refine wp_region_quiet_lit (by kernel_rfl) (by kernel_rfl) ?_
          repeat (go_big_quiet_step (fail))
          refine wpQuiet_nil ?_
          intro _ hw'
          obtain ⟨nq, hw''⟩ := hw'
          subst hw''
          replace c4 := bDraws c4 nq
          replace rf := rdDraws rf nq
          replace o53 := ownDraws o53 nq
          replace n3 := ownDraws n3 nq
          replace r63 := rdDraws r63 nq
          clear e0 s1 s2
          generalize w4.drewN nq = w5 at *
          have e0 := (Own.read n3 (j := 0) rfl).1
          clear n3
          go_upto_region 15 with fail
          go_upto_region 16 with (refine wpList_app rfl _ _ _ rfl elB rfl rfl o53 rf (by unfold maxLen; omega) (by omega) c4.size ?_; intro a7 c7 w7 o7 g7 n7)
          have c8 := Own.grown c4 o53 g7 c4.size (Nat.le_refl _)
          rw [B8_app, ← List.take_add] at o7
          have r7 := r60.from8 d f2
          rw [List.drop_drop] at r7
          have sl : ∀ W, (Instr.slice 22 (.slice a6 m c6) (some (.int .i64 (d : Int))) none none).run Try.prog W = .ok (.slice (cutA a6 d c6) (m - d) (c6 - d)) W := fun W => run_cut (P := Try.prog) elB.und (by kernel_rfl) r63 d f2 W
          try clear hge2
          clear r63 rf o53 g7 n7 c4 q1 q2 q3 q4 q5 q2n q3n q4n q5n
          go_wp2_with fail
          go_roundg (m - d)
          case measure => omega
          case rel => exact ⟨u + d, m - d, i + 1, a7, cutA a6 d c6, c7, c6 - d, by omega, by omega, rfl, rfl, rfl, by simp, c8, r7, o7⟩
    · obtain rfl : m = 0 := by omega
      obtain rfl : u = n := by omega
      rw [List.take_of_length_le (by rw [HLB.out]; exact Nat.le_refl _)] at o5
      have s1 := rstr o5.rd
      have s2 := rstr (hb0.below br)
      clear HR0 r60 r6
      go_wp2_with fail
      refine (packs_any _).mono ?_
      rintro e w9 ⟨rfl, b9⟩
      go_wp2_with fail
      go_ret
      exact ⟨rfl, br.trans (b9.mono br.size)⟩
end Go.Proofs.Ytjlhhbbciaeggaa
