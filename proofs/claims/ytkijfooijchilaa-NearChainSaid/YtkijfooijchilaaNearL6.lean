/- The law NearChain, walked. -/
import Derived.Test.YtkijfooijchilaaNearS
import Derived.Test.YtkijfooijchilaaMore
namespace Go.Proofs.Ytkijfooijchilaa
set_option linter.unusedSimpArgs false
set_option linter.unusedVariables false
open Go.RowKit

set_option maxRecDepth 100000 in
set_option maxHeartbeats 4000000 in
theorem nearChain_law (w : World) (ad : Option Addr) (n cap : Nat) (xs : List Int) (hb : Rd w 1 ad n cap (I64 xs)) (hg : ∀ z ∈ xs, -9223372036854775808 ≤ z ∧ z ≤ 9223372036854775807)
    (x : Nat) (hx : x < 65536) :
    Calls Try.prog 8 #[.slice ad n cap, .int .u16 x] w fun e w' => e = .returned (.bool true) ∧ Below w.heap.size w w' := by
  clear hg
  by_cases hn : 600 < n
  · go_enter Try.func8, Try.ntmps8
    go_wp2_with fail
    refine (finds_any _).mono ?_
    rintro e w9 ⟨rfl, b9⟩
    go_wp2_with fail
    go_ret
    exact ⟨rfl, b9⟩
  by_cases hn0 : n = 0
  · subst hn0
    go_enter Try.func8, Try.ntmps8
    go_wp2_with fail
    refine (finds_any _).mono ?_
    rintro e w9 ⟨rfl, b9⟩
    go_wp2_with fail
    go_ret
    exact ⟨rfl, b9⟩
  · have hpos : 0 < n := by omega
    have hne : ((n : Int) == 0) = false := by simp; omega
    have hne2 : decide ((600 : Int) < (n : Int)) = false := deF (by omega)
    clear hn0
    have hl := hb.lenI
    have HL := Lib.hid hl; clear hl
    obtain ⟨i, hi⟩ : ∃ i, x % n = i := ⟨_, rfl⟩
    have hin : i < n := by rw [← hi]; exact Nat.mod_lt _ hpos
    have hmod : (x : Int) % (n : Int) = (i : Int) := by rw [← hi]; exact (Int.natCast_emod x n).symm
    clear hi
    go_enter Try.func8, Try.ntmps8
    go_wp2_with fail
    simp only [hmod]
    clear hmod
    refine (ahead_any _ _ _ _ xs hb (by omega)).mono ?_
    rintro e w2 ⟨g2, rfl, o2, c2⟩
    rw [HL.out] at o2
    go_wp2_with fail
    refine (behind_any _ _ _ _ xs (hb.below c2) (by omega)).mono ?_
    rintro e w3 ⟨g3, rfl, o3, b3⟩
    have c3 := c2.trans (b3.mono c2.size)
    rw [HL.out] at o3
    have o2' := o2.below b3
    have hb3 := hb.below c3
    clear hb o2 b3
    obtain ⟨v, hv⟩ : ∃ v, atI xs i = v := ⟨_, rfl⟩
    obtain ⟨p, hp⟩ : ∃ p : Int, (bk xs i : Int) - 1 = p := ⟨_, rfl⟩
    obtain ⟨ca, _⟩ := o2'.read (I64_get _ i (by rw [refAhead_len]; omega))
    obtain ⟨_, cx⟩ := hb3.getI hin
    rw [atI_ahead _ _ _ hin, hp] at ca
    rw [hv] at cx
    have HV := Lib.hid hv; clear hv
    have HP := Lib.hid hp; clear hp
    go_upto_region 8 with fail
    (try simp only [List.append])
    refine wp_region_quiet_lit (by kernel_rfl) (by kernel_rfl) ?_
    repeat (go_big_quiet_step (fail))
    refine wpQuiet_nil ?_
    intro _ hw'
    obtain ⟨nq, hw''⟩ := hw'
    subst hw''
    have hb4 := rdDraws hb3 nq
    have o24 := ownDraws o2' nq
    have o34 := ownDraws o3 nq
    have c4 := bDraws c3 nq
    clear hb3 o2' o3 ca cx
    generalize w3.drewN nq = w4 at *
    go_wp2_with fail
    go_loopg [8, 9, 10] (i + 1) (fun k a l z wr => ∃ (d c : Nat) (kk p v : Int), d ≤ c ∧ c ≤ i ∧ k = d + 1 ∧ z = .int .i64 kk ∧ kk = (d : Int) - 1 ∧ a = .int .i64 p ∧ l = .int .i64 v ∧ Hid ((bk xs c : Int) - 1 = p) ∧ Hid (atI xs c = v) ∧ Hid (∀ t, d ≤ t → t < c → v ≤ atI xs t) ∧ w4 = wr)
    case atStart => exact ⟨i, i, _, p, v, Nat.le_refl _, Nat.le_refl _, rfl, rfl, rfl, rfl, rfl, HP, HV, Lib.hid (fun t h1 h2 => by omega), rfl⟩
    case round =>
      obtain ⟨d, c, kk, p, v, hdc, hci, rfl, rfl, hkk, rfl, rfl, hp, hv, hall, rfl⟩ := hrel
      cases d with
      | succ k =>
        obtain rfl : kk = (k : Int) := by omega
        clear hkk
        obtain ⟨_, ck⟩ := hb4.getI (k := k) (by omega)
        obtain ⟨u, hu⟩ : ∃ u, atI xs k = u := ⟨_, rfl⟩
        rw [hu] at ck
        by_cases huv : u < v
        · obtain rfl : p = (k : Int) := by
            have h1 : bk xs c = k + 1 := bk_of xs c (k + 1) (by omega) (fun t a b => by rw [hv.out]; exact hall.out t a b) (fun _ => by rw [Nat.add_sub_cancel, hu, hv.out]; exact huv)
            have := hp.out; omega
          have HU := Lib.hid hu; clear hu
          obtain ⟨ca, _⟩ := o24.read (I64_get _ k (by rw [refAhead_len]; omega))
          rw [atI_ahead _ _ _ (by omega)] at ca
          obtain ⟨p2, hp2⟩ : ∃ p : Int, (bk xs k : Int) - 1 = p := ⟨_, rfl⟩
          rw [hp2] at ca
          have HP2 := Lib.hid hp2; clear hp2
          go_wp2_with fail
          go_roundg (k + 1)
          case measure => omega
          case rel => exact ⟨k, k, _, p2, u, Nat.le_refl _, by omega, rfl, rfl, rfl, rfl, rfl, HP2, HU, Lib.hid (fun t h1 h2 => by omega), rfl⟩
        · have HU := Lib.hid hu; clear hu
          go_wp2_with fail
          go_roundg (k + 1)
          case measure => omega
          case rel => exact ⟨k, c, _, p, v, by omega, hci, rfl, rfl, rfl, rfl, rfl, hp, hv, Lib.hid (fun t h1 h2 => by
            by_cases h : t = k
            · subst h; rw [HU.out]; omega
            · exact hall.out t (by omega) h2), rfl⟩
      | zero =>
        obtain rfl : kk = -1 := by omega
        obtain rfl : p = -1 := by
          have h1 : bk xs c = 0 := bk_of xs c 0 (by omega) (fun t a b => by rw [hv.out]; exact hall.out t a b) (fun h => by omega)
          have := hp.out; omega
        clear hkk hp hv hall
        obtain ⟨v, hv⟩ : ∃ v, atI xs i = v := ⟨_, rfl⟩
        obtain ⟨q, hq⟩ : ∃ q : Nat, fw xs i = q := ⟨_, rfl⟩
        obtain ⟨cb, _⟩ := o34.read (I64_get _ i (by rw [refBehind_len]; omega))
        obtain ⟨_, cx⟩ := hb4.getI hin
        rw [atI_behind _ _ _ hin, hq] at cb
        rw [hv] at cx
        have HV := Lib.hid hv; clear hv
        have HQ := Lib.hid hq; clear hq
        go_upto_region 17 with fail
        (try simp only [List.append])
        refine wp_region_quiet_lit (by kernel_rfl) (by kernel_rfl) ?_
        repeat (go_big_quiet_step (fail))
        refine wpQuiet_nil ?_
        intro _ hw'
        obtain ⟨nq, hw''⟩ := hw'
        subst hw''
        have hb5 := rdDraws hb4 nq
        have o25 := ownDraws o24 nq
        have o35 := ownDraws o34 nq
        have c5 := bDraws c4 nq
        clear hb4 o24 o34 cb cx
        generalize w4.drewN nq = w5 at *
        go_wp2_with fail
        go_loopg [11, 12, 13] (n - (i + 1)) (fun k a l z wr => ∃ (d c q : Nat) (v : Int), i ≤ c ∧ c < d ∧ d ≤ n ∧ k = n - d ∧ z = .int .i64 d ∧ a = .int .i64 q ∧ l = .int .i64 v ∧ Hid (fw xs c = q) ∧ Hid (atI xs c = v) ∧ Hid (∀ t, c < t → t < d → v ≤ atI xs t) ∧ w5 = wr)
        case atStart => exact ⟨i + 1, i, q, v, Nat.le_refl _, by omega, by omega, rfl, by simp, rfl, rfl, HQ, HV, Lib.hid (fun t h1 h2 => by omega), rfl⟩
        case round =>
          obtain ⟨d, c, q, v, hic, hcd, hdn, rfl, rfl, rfl, rfl, hq, hv, hall, rfl⟩ := hrel
          by_cases hlt : d < n
          · obtain ⟨_, ck⟩ := hb5.getI (k := d) (by omega)
            obtain ⟨u, hu⟩ : ∃ u, atI xs d = u := ⟨_, rfl⟩
            rw [hu] at ck
            by_cases huv : u < v
            · obtain rfl : q = d := by
                rw [← hq.out]
                exact fw_of xs c d (by rw [HL.out]; omega) (by omega) (by rw [HL.out]; omega) (fun t a b => by rw [hv.out]; exact hall.out t a b) (fun _ => by rw [hu, hv.out]; exact huv)
              have HU := Lib.hid hu; clear hu
              obtain ⟨ca, _⟩ := o35.read (I64_get _ q (by rw [refBehind_len]; omega))
              rw [atI_behind _ _ _ (by omega)] at ca
              obtain ⟨q2, hq2⟩ : ∃ p : Nat, fw xs q = p := ⟨_, rfl⟩
              rw [hq2] at ca
              have HQ2 := Lib.hid hq2; clear hq2
              go_wp2_with fail
              go_roundg (n - (q + 1))
              case measure => omega
              case rel => exact ⟨q + 1, q, q2, u, by omega, by omega, by omega, rfl, by simp, rfl, rfl, HQ2, HU, Lib.hid (fun t h1 h2 => by omega), rfl⟩
            · have HU := Lib.hid hu; clear hu
              go_wp2_with fail
              go_roundg (n - (d + 1))
              case measure => omega
              case rel => exact ⟨d + 1, c, q, v, hic, by omega, by omega, rfl, by simp, rfl, rfl, hq, hv, Lib.hid (fun t h1 h2 => by
                by_cases h : t = d
                · subst h; rw [HU.out]; omega
                · exact hall.out t h1 (by omega)), rfl⟩
          · obtain rfl : n = d := by omega
            obtain rfl : n = q := by
              rw [← hq.out]
              exact (fw_of xs c n (by rw [HL.out]; omega) (by omega) (by rw [HL.out]; omega) (fun t a b => by rw [hv.out]; exact hall.out t a b) (fun h => by rw [HL.out] at h; omega)).symm
            clear hq hv hall
            go_wp2_with fail
            refine (finds_any _).mono ?_
            rintro e w9 ⟨rfl, b9⟩
            go_wp2_with fail
            go_ret
            exact ⟨rfl, c5.trans (b9.mono c5.size)⟩
end Go.Proofs.Ytkijfooijchilaa
