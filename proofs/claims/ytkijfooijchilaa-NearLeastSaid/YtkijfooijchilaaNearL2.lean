/- The law NearLeast, walked. -/
import Derived.Test.YtkijfooijchilaaNearS
import Derived.Test.YtkijfooijchilaaMore
namespace Go.Proofs.Ytkijfooijchilaa
set_option linter.unusedSimpArgs false
set_option linter.unusedVariables false
open Go.RowKit

set_option maxRecDepth 100000 in
set_option maxHeartbeats 4000000 in
theorem nearLeast_law (w : World) (ad : Option Addr) (n cap : Nat) (xs : List Int) (hb : Rd w 1 ad n cap (I64 xs)) (hg : ∀ z ∈ xs, -9223372036854775808 ≤ z ∧ z ≤ 9223372036854775807) :
    Calls Try.prog 4 #[.slice ad n cap] w fun e w' => e = .returned (.bool true) ∧ Below w.heap.size w w' := by
  clear hg
  by_cases hn : 600 < n
  · go_enter Try.func4, Try.ntmps4
    go_wp2
    go_ret
    exact ⟨rfl, Below.refl _ _⟩
  · have hl := hb.lenI
    have HL := Lib.hid hl; clear hl
    go_enter Try.func4, Try.ntmps4
    go_wp2_with fail
    refine (ahead_any _ _ _ _ xs hb (by omega)).mono ?_
    rintro e w2 ⟨g2, rfl, o2, c2⟩
    rw [HL.out] at o2
    go_wp2_with fail
    refine (behind_any _ _ _ _ xs (hb.below c2) (by omega)).mono ?_
    rintro e w3 ⟨g3, rfl, o3, b3⟩
    have c3 := c2.trans (b3.mono c2.size)
    rw [HL.out] at o3
    have o2' := o2.below b3
    have hb3 := hb.below c3
    clear hb o2 b3
    go_wp2_with fail
    go_loopg [5] n (fun k i wr => ∃ j : Nat, j ≤ n ∧ k = n - j ∧ i = .int .i64 j ∧ Below w3.heap.size w3 wr)
    case atStart => exact ⟨0, Nat.zero_le _, by simp, rfl, Below.refl _ _⟩
    case round =>
      obtain ⟨j, hj, rfl, rfl, hbr⟩ := hrel
      rename World => wr
      have oa := (o2'.below hbr)
      have ob := (o3.below hbr)
      have hx := (hb3.below hbr)
      by_cases hlt : j < n
      · obtain ⟨ca, _⟩ := oa.read (I64_get _ j (by rw [refAhead_len]; omega))
        obtain ⟨cb, _⟩ := ob.read (I64_get _ j (by rw [refBehind_len]; omega))
        obtain ⟨nx, cx⟩ := hx.getI hlt
        rw [atI_ahead _ _ _ hlt] at ca
        rw [atI_behind _ _ _ hlt] at cb
        obtain ⟨s1, s2, s3⟩ := bk_spec xs j
        obtain ⟨t1, t2, t3, t4⟩ := fw_spec xs j (by rw [HL.out]; exact hlt)
        rw [HL.out] at t2 t4
        generalize hp : bk xs j = p at *
        generalize hq : fw xs j = q at *
        obtain ⟨v, hv⟩ : ∃ v, atI xs j = v := ⟨_, rfl⟩
        rw [hv] at cx s2 s3 t3 t4
        have HV := Lib.hid hv; clear hv
        have HS2 := Lib.hid s2; clear s2
        have HT3 := Lib.hid t3; clear t3
        have HS3 := Lib.hid s3; clear s3
        have HT4 := Lib.hid t4; clear t4
        clear hp
        have HQ := Lib.hid hq; clear hq
        have hcase : (p = 0 ∨ ∃ p', p = p' + 1) ∧ (q = n ∨ q < n) := ⟨by cases p; exact .inl rfl; exact .inr ⟨_, rfl⟩, by omega⟩
        obtain ⟨hc1, hc2⟩ := hcase
        have hz1 := Lib.hid hb3; clear hb3
        have hz2 := Lib.hid o2'; clear o2'
        have hz3 := Lib.hid o3; clear o3
        have hz4 := Lib.hid hbr; clear hbr
        have d0 := deF (p := ((j : Int) ≤ -1)) (by omega)
        have d2 := deF (p := (q ≤ j)) (by omega)
        rcases hc1 with rfl | ⟨p', rfl⟩
        · rw [show ((0 : Nat) : Int) - 1 = -1 by omega] at ca
          rcases hc2 with hqe | hqn
          · obtain rfl : n = q := hqe.symm
            go_upto_region 10 with fail
            (try simp only [List.append])
            refine wp_region_quiet_lit (by kernel_rfl) (by kernel_rfl) ?_
            repeat (go_big_quiet_step (fail))
            refine wpQuiet_nil ?_
            intro _ hw'
            obtain ⟨nq, hw''⟩ := hw'
            subst hw''
            go_wp2_with fail
            go_loopg [6] (n - 0) (fun k i wr2 => ∃ m : Nat, 0 ≤ m ∧ m ≤ n ∧ k = n - m ∧ i = .int .i64 m ∧ Below wr.heap.size wr wr2)
            case atStart => exact ⟨0, Nat.le_refl _, by omega, rfl, by simp, bDraws (Below.refl _ _) _⟩
            case round =>
              obtain ⟨m, hm1, hm2, rfl, rfl, hbi⟩ := hrel
              rename World => wi
              have cb2 : wi.cell? ⟨g3, j, none⟩ = some (.int .i64 (n : Int)) := by
                have := (ob.below hbi).read (I64_get _ j (by rw [refBehind_len]; omega))
                rw [atI_behind _ _ _ (by omega), HQ.out] at this
                exact this.1
              have hxi := hx.below hbi
              obtain ⟨_, cx2⟩ := hxi.getI (k := j) (by omega)
              rw [HV.out] at cx2
              by_cases hmq : m < n
              · obtain ⟨_, cm⟩ := hxi.getI (k := m) (by omega)
                obtain ⟨vm, hvm⟩ : ∃ vm, atI xs m = vm := ⟨_, rfl⟩
                have hle : v ≤ vm := by
                  rw [← hvm]
                  rcases Nat.lt_trichotomy m j with h | h | h
                  · exact HS2.out m (by omega) h
                  · subst h; have := HV.out; omega
                  · exact HT3.out m h hmq
                rw [hvm] at cm
                clear hvm
                have dd := deF (p := (vm < v)) (by omega)
                go_upto_region 15 with fail
                (try simp only [List.append])
                refine wp_region_quiet_lit (by kernel_rfl) (by kernel_rfl) ?_
                repeat (go_big_quiet_step (fail))
                refine wpQuiet_nil ?_
                intro _ hw'
                obtain ⟨nq, hw''⟩ := hw'
                subst hw''
                go_wp2_with fail
                go_roundg (n - (m + 1))
                case measure => omega
                case rel => exact ⟨m + 1, by omega, by omega, rfl, by simp, bDraws hbi _⟩
              · obtain rfl : n = m := by omega
                go_wp2_with fail
                go_roundg (n - (j + 1))
                case measure => omega
                case rel => exact ⟨j + 1, by omega, by simp, rfl, hz4.out.trans (hbi.mono hz4.out.size)⟩
          · have d3 := deT (p := (q < n)) (by omega)
            have d10 := deF (p := (n < q)) (by omega)
            obtain ⟨ny, cy⟩ := hx.getI hqn
            obtain ⟨v2, hv2⟩ : ∃ v2, atI xs q = v2 := ⟨_, rfl⟩
            have hvv := HT4.out hqn
            rw [hv2] at hvv cy
            clear hv2
            have d4 := deF (p := (v ≤ v2)) (by omega)
            go_upto_region 10 with fail
            (try simp only [List.append])
            refine wp_region_quiet_lit (by kernel_rfl) (by kernel_rfl) ?_
            repeat (go_big_quiet_step (fail))
            refine wpQuiet_nil ?_
            intro _ hw'
            obtain ⟨nq, hw''⟩ := hw'
            subst hw''
            go_wp2_with fail
            go_loopg [6] (q - 0) (fun k i wr2 => ∃ m : Nat, 0 ≤ m ∧ m ≤ q ∧ k = q - m ∧ i = .int .i64 m ∧ Below wr.heap.size wr wr2)
            case atStart => exact ⟨0, Nat.le_refl _, by omega, rfl, by simp, bDraws (Below.refl _ _) _⟩
            case round =>
              obtain ⟨m, hm1, hm2, rfl, rfl, hbi⟩ := hrel
              rename World => wi
              have cb2 : wi.cell? ⟨g3, j, none⟩ = some (.int .i64 (q : Int)) := by
                have := (ob.below hbi).read (I64_get _ j (by rw [refBehind_len]; omega))
                rw [atI_behind _ _ _ (by omega), HQ.out] at this
                exact this.1
              have hxi := hx.below hbi
              obtain ⟨_, cx2⟩ := hxi.getI (k := j) (by omega)
              rw [HV.out] at cx2
              by_cases hmq : m < q
              · obtain ⟨_, cm⟩ := hxi.getI (k := m) (by omega)
                obtain ⟨vm, hvm⟩ : ∃ vm, atI xs m = vm := ⟨_, rfl⟩
                have hle : v ≤ vm := by
                  rw [← hvm]
                  rcases Nat.lt_trichotomy m j with h | h | h
                  · exact HS2.out m (by omega) h
                  · subst h; have := HV.out; omega
                  · exact HT3.out m h hmq
                rw [hvm] at cm
                clear hvm
                have dd := deF (p := (vm < v)) (by omega)
                go_upto_region 15 with fail
                (try simp only [List.append])
                refine wp_region_quiet_lit (by kernel_rfl) (by kernel_rfl) ?_
                repeat (go_big_quiet_step (fail))
                refine wpQuiet_nil ?_
                intro _ hw'
                obtain ⟨nq, hw''⟩ := hw'
                subst hw''
                go_wp2_with fail
                go_roundg (q - (m + 1))
                case measure => omega
                case rel => exact ⟨m + 1, by omega, by omega, rfl, by simp, bDraws hbi _⟩
              · obtain rfl : q = m := by omega
                go_wp2_with fail
                go_roundg (n - (j + 1))
                case measure => omega
                case rel => exact ⟨j + 1, by omega, by simp, rfl, hz4.out.trans (hbi.mono hz4.out.size)⟩
        · rw [show ((p' + 1 : Nat) : Int) - 1 = (p' : Int) by omega] at ca
          have d5 := deF (p := ((p' : Int) ≤ -2)) (by omega)
          have d6 := deF (p := ((p' : Int) < -1)) (by omega)
          have d7 := deF (p := (j ≤ p')) (by omega)
          have d8 := deT (p := ((0 : Int) ≤ (p' : Int))) (by omega)
          obtain ⟨np, cp⟩ := hx.getI (k := p') (by omega)
          obtain ⟨v1, hv1⟩ : ∃ v1, atI xs p' = v1 := ⟨_, rfl⟩
          have hv11 := HS3.out (by omega)
          rw [Nat.add_sub_cancel, hv1] at hv11
          rw [hv1] at cp
          clear hv1
          have d9 := deF (p := (v ≤ v1)) (by omega)
          rcases hc2 with hqe | hqn
          · obtain rfl : n = q := hqe.symm
            go_upto_region 10 with fail
            (try simp only [List.append])
            refine wp_region_quiet_lit (by kernel_rfl) (by kernel_rfl) ?_
            repeat (go_big_quiet_step (fail))
            refine wpQuiet_nil ?_
            intro _ hw'
            obtain ⟨nq, hw''⟩ := hw'
            subst hw''
            go_wp2_with fail
            go_loopg [6] (n - (p' + 1)) (fun k i wr2 => ∃ m : Nat, (p' + 1) ≤ m ∧ m ≤ n ∧ k = n - m ∧ i = .int .i64 m ∧ Below wr.heap.size wr wr2)
            case atStart => exact ⟨(p' + 1), Nat.le_refl _, by omega, rfl, by simp, bDraws (Below.refl _ _) _⟩
            case round =>
              obtain ⟨m, hm1, hm2, rfl, rfl, hbi⟩ := hrel
              rename World => wi
              have cb2 : wi.cell? ⟨g3, j, none⟩ = some (.int .i64 (n : Int)) := by
                have := (ob.below hbi).read (I64_get _ j (by rw [refBehind_len]; omega))
                rw [atI_behind _ _ _ (by omega), HQ.out] at this
                exact this.1
              have hxi := hx.below hbi
              obtain ⟨_, cx2⟩ := hxi.getI (k := j) (by omega)
              rw [HV.out] at cx2
              by_cases hmq : m < n
              · obtain ⟨_, cm⟩ := hxi.getI (k := m) (by omega)
                obtain ⟨vm, hvm⟩ : ∃ vm, atI xs m = vm := ⟨_, rfl⟩
                have hle : v ≤ vm := by
                  rw [← hvm]
                  rcases Nat.lt_trichotomy m j with h | h | h
                  · exact HS2.out m (by omega) h
                  · subst h; have := HV.out; omega
                  · exact HT3.out m h hmq
                rw [hvm] at cm
                clear hvm
                have dd := deF (p := (vm < v)) (by omega)
                go_upto_region 15 with fail
                (try simp only [List.append])
                refine wp_region_quiet_lit (by kernel_rfl) (by kernel_rfl) ?_
                repeat (go_big_quiet_step (fail))
                refine wpQuiet_nil ?_
                intro _ hw'
                obtain ⟨nq, hw''⟩ := hw'
                subst hw''
                go_wp2_with fail
                go_roundg (n - (m + 1))
                case measure => omega
                case rel => exact ⟨m + 1, by omega, by omega, rfl, by simp, bDraws hbi _⟩
              · obtain rfl : n = m := by omega
                go_wp2_with fail
                go_roundg (n - (j + 1))
                case measure => omega
                case rel => exact ⟨j + 1, by omega, by simp, rfl, hz4.out.trans (hbi.mono hz4.out.size)⟩
          · have d3 := deT (p := (q < n)) (by omega)
            have d10 := deF (p := (n < q)) (by omega)
            obtain ⟨ny, cy⟩ := hx.getI hqn
            obtain ⟨v2, hv2⟩ : ∃ v2, atI xs q = v2 := ⟨_, rfl⟩
            have hvv := HT4.out hqn
            rw [hv2] at hvv cy
            clear hv2
            have d4 := deF (p := (v ≤ v2)) (by omega)
            go_upto_region 10 with fail
            (try simp only [List.append])
            refine wp_region_quiet_lit (by kernel_rfl) (by kernel_rfl) ?_
            repeat (go_big_quiet_step (fail))
            refine wpQuiet_nil ?_
            intro _ hw'
            obtain ⟨nq, hw''⟩ := hw'
            subst hw''
            go_wp2_with fail
            go_loopg [6] (q - (p' + 1)) (fun k i wr2 => ∃ m : Nat, (p' + 1) ≤ m ∧ m ≤ q ∧ k = q - m ∧ i = .int .i64 m ∧ Below wr.heap.size wr wr2)
            case atStart => exact ⟨(p' + 1), Nat.le_refl _, by omega, rfl, by simp, bDraws (Below.refl _ _) _⟩
            case round =>
              obtain ⟨m, hm1, hm2, rfl, rfl, hbi⟩ := hrel
              rename World => wi
              have cb2 : wi.cell? ⟨g3, j, none⟩ = some (.int .i64 (q : Int)) := by
                have := (ob.below hbi).read (I64_get _ j (by rw [refBehind_len]; omega))
                rw [atI_behind _ _ _ (by omega), HQ.out] at this
                exact this.1
              have hxi := hx.below hbi
              obtain ⟨_, cx2⟩ := hxi.getI (k := j) (by omega)
              rw [HV.out] at cx2
              by_cases hmq : m < q
              · obtain ⟨_, cm⟩ := hxi.getI (k := m) (by omega)
                obtain ⟨vm, hvm⟩ : ∃ vm, atI xs m = vm := ⟨_, rfl⟩
                have hle : v ≤ vm := by
                  rw [← hvm]
                  rcases Nat.lt_trichotomy m j with h | h | h
                  · exact HS2.out m (by omega) h
                  · subst h; have := HV.out; omega
                  · exact HT3.out m h hmq
                rw [hvm] at cm
                clear hvm
                have dd := deF (p := (vm < v)) (by omega)
                go_upto_region 15 with fail
                (try simp only [List.append])
                refine wp_region_quiet_lit (by kernel_rfl) (by kernel_rfl) ?_
                repeat (go_big_quiet_step (fail))
                refine wpQuiet_nil ?_
                intro _ hw'
                obtain ⟨nq, hw''⟩ := hw'
                subst hw''
                go_wp2_with fail
                go_roundg (q - (m + 1))
                case measure => omega
                case rel => exact ⟨m + 1, by omega, by omega, rfl, by simp, bDraws hbi _⟩
              · obtain rfl : q = m := by omega
                go_wp2_with fail
                go_roundg (n - (j + 1))
                case measure => omega
                case rel => exact ⟨j + 1, by omega, by simp, rfl, hz4.out.trans (hbi.mono hz4.out.size)⟩
      · obtain rfl : j = n := by omega
        go_wp2_with fail
        refine (finds_any _).mono ?_
        rintro e w9 ⟨rfl, b9⟩
        go_wp2_with fail
        go_ret
        exact ⟨rfl, (c3.trans (hbr.mono c3.size)).trans (b9.mono (Nat.le_trans c3.size hbr.size))⟩
end Go.Proofs.Ytkijfooijchilaa
