/- The law NearTurned, walked. -/
import Derived.Test.YtkijfooijchilaaNearS
import Derived.Test.YtkijfooijchilaaMore
namespace Go.Proofs.Ytkijfooijchilaa
set_option linter.unusedSimpArgs false
set_option linter.unusedVariables false
open Go.RowKit

/-- the first m numbers of the row turned round -/
def turned (xs : List Int) (m : Nat) : List Int := (List.range m).map fun k => atI xs (xs.length - 1 - k)
theorem turned_succ (xs : List Int) (m : Nat) : turned xs (m + 1) = turned xs m ++ [atI xs (xs.length - 1 - m)] := by simp [turned, List.range_succ]
theorem turned_len (xs : List Int) (m : Nat) : (turned xs m).length = m := by simp [turned]
theorem atI_turned (xs : List Int) (m k : Nat) (h : k < m) : atI (turned xs m) k = atI xs (xs.length - 1 - k) := by
  simp [atI, turned, List.getD_eq_getElem?_getD, h]
theorem fw_turned (xs : List Int) (j : Nat) (hj : j < xs.length) : fw (turned xs xs.length) (xs.length - 1 - j) = xs.length - bk xs j := by
  obtain ⟨s1, s2, s3⟩ := bk_spec xs j
  refine fw_of _ _ _ (by rw [turned_len]; omega) (by omega) (by rw [turned_len]; omega) (fun k h1 h2 => ?_) (fun h => ?_)
  · rw [atI_turned _ _ _ (by omega), atI_turned _ _ _ (by omega)]
    rw [show xs.length - 1 - (xs.length - 1 - j) = j by omega]
    exact s2 _ (by omega) (by omega)
  · rw [turned_len] at h
    rw [atI_turned _ _ _ (by omega), atI_turned _ _ _ (by omega)]
    rw [show xs.length - 1 - (xs.length - 1 - j) = j by omega, show xs.length - 1 - (xs.length - bk xs j) = bk xs j - 1 by omega]
    exact s3 (by omega)

set_option maxRecDepth 100000 in
set_option maxHeartbeats 4000000 in
theorem nearTurned_law (w : World) (ad : Option Addr) (n cap : Nat) (xs : List Int) (hb : Rd w 1 ad n cap (I64 xs)) (hg : ∀ z ∈ xs, -9223372036854775808 ≤ z ∧ z ≤ 9223372036854775807) :
    Calls Try.prog 5 #[.slice ad n cap] w fun e w' => e = .returned (.bool true) ∧ Below w.heap.size w w' := by
  clear hg
  by_cases hn : 600 < n
  · go_enter Try.func5, Try.ntmps5
    go_wp2
    go_ret
    exact ⟨rfl, Below.refl _ _⟩
  · have hl := hb.lenI
    have HL := Lib.hid hl; clear hl
    go_enter Try.func5, Try.ntmps5
    go_wp2_with fail
    go_loopg [4, 5] n (fun k o i wr => ∃ (j : Nat) (z : Int), j ≤ n ∧ k = n - j ∧ i = .int .i64 z ∧ z = (n : Int) - 1 - j ∧ Below w.heap.size w wr ∧ ∃ a c, o = .slice a j c ∧ Own wr 3 1 w.heap.size a j c (I64 (turned xs j)))
    case atStart => exact ⟨0, _, Nat.zero_le _, by simp, rfl, by simp, Below.refl _ _, none, 0, rfl, Own.nil _ _ _ _⟩
    case round =>
      obtain ⟨j, z, hj, rfl, rfl, hz, hbr, a, c, rfl, ho⟩ := hrel
      rename World => wr
      by_cases hlt : j < n
      · obtain ⟨m, rfl⟩ : ∃ m : Nat, z = m := ⟨z.toNat, by omega⟩
        have hmj : m < n := by omega
        have HM := Lib.hid hz; clear hz
        obtain ⟨nx, cx⟩ := (hb.below hbr).getI hmj
        obtain ⟨v, hv⟩ : ∃ v, atI xs m = v := ⟨_, rfl⟩
        rw [hv] at cx
        have HV := Lib.hid hv; clear hv
        have h63 : j + 1 ≤ maxLen := by unfold maxLen; omega
        have hby : (j + 1) * 8 ≤ 140737488355328 := by omega
        have H1 := Lib.hid h63; clear h63
        have H2 := Lib.hid hby; clear hby
        have hsz := hbr.size
        have H3 := Lib.hid hsz; clear hsz
        go_wp2_with (refine wpList_push rfl _ _ _ rfl tI rfl rfl ho (ys := [.int .i64 v]) rfl (by simp [Value.oneCell']) H1.out H2.out H3.out ?_; intro a' c' w1 o1 r1 _)
        go_roundg (n - (j + 1))
        case measure => omega
        case rel =>
          have hm := HM.out
          refine ⟨j + 1, _, by omega, rfl, rfl, by omega, Own.grown hbr ho r1 H3.out (Nat.le_refl _), a', c', rfl, ?_⟩
          rw [turned_succ, ← I64_app, HL.out, show n - 1 - j = m by omega, HV.out]
          exact o1
      · obtain rfl : n = j := by omega
        have hzz : z < 0 := by omega
        clear hz
        go_wp2_with fail
        refine (ahead_any _ _ _ _ xs (hb.below hbr) (by omega)).mono ?_
        rintro e w2 ⟨g2, rfl, o2, b2⟩
        have c2 := hbr.trans (b2.mono hbr.size)
        rw [HL.out] at o2
        go_wp2_with fail
        refine (behind_any _ _ _ _ _ (ho.below b2).rd (by omega)).mono ?_
        rintro e w3 ⟨g3, rfl, o3, b3⟩
        have c3 := c2.trans (b3.mono c2.size)
        rw [turned_len] at o3
        have o2' := o2.below b3
        clear o2 b3 ho
        go_wp2_with fail
        go_loopg [8] n (fun k i wr => ∃ j : Nat, j ≤ n ∧ k = n - j ∧ i = .int .i64 j ∧ Below w3.heap.size w3 wr)
        case atStart => exact ⟨0, Nat.zero_le _, by simp, rfl, Below.refl _ _⟩
        case round =>
          obtain ⟨j, hj, rfl, rfl, hbi⟩ := hrel
          rename World => wi
          have oa := (o2'.below hbi)
          have ob := (o3.below hbi)
          by_cases hlt : j < n
          · obtain ⟨m, hm⟩ : ∃ m : Nat, (n : Int) - 1 - (j : Int) = m := ⟨n - 1 - j, by omega⟩
            obtain ⟨ca, _⟩ := oa.read (I64_get _ j (by rw [refAhead_len]; omega))
            obtain ⟨cb, _⟩ := ob.read (I64_get _ m (by rw [refBehind_len]; omega))
            rw [atI_ahead _ _ _ hlt] at ca
            rw [atI_behind _ _ _ (by omega)] at cb
            have hf := fw_turned xs j (by rw [HL.out]; exact hlt)
            rw [HL.out, show n - 1 - j = m by omega] at hf
            have hbk := (bk_spec xs j).1
            rw [hf] at cb
            generalize bk xs j = p at *
            obtain ⟨f, hfp⟩ : ∃ f : Nat, n - p = f := ⟨_, rfl⟩
            rw [hfp] at cb
            have he : (n : Int) - 1 - (f : Int) = (p : Int) - 1 := by omega
            have hmn : m < n := by omega
            have HF := Lib.hid hfp; clear hfp
            clear hf
            have hz3 := Lib.hid hbi; clear hbi
            go_upto_region 16 with fail
            (try simp only [List.append])
            refine wp_region_quiet_lit (by kernel_rfl) (by kernel_rfl) ?_
            repeat (go_big_quiet_step (fail))
            refine wpQuiet_nil ?_
            intro _ hw'
            obtain ⟨nq, hw''⟩ := hw'
            subst hw''
            go_wp2_with fail
            go_roundg (n - (j + 1))
            case measure => omega
            case rel => exact ⟨j + 1, by omega, rfl, by simp, bDraws hz3.out _⟩
          · obtain rfl : n = j := by omega
            go_wp2_with fail
            refine (finds_any _).mono ?_
            rintro e w9 ⟨rfl, b9⟩
            go_wp2_with fail
            go_ret
            exact ⟨rfl, (c3.trans (hbi.mono c3.size)).trans (b9.mono (Nat.le_trans c3.size hbi.size))⟩
end Go.Proofs.Ytkijfooijchilaa
