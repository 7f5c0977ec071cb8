/- FrontBack. -/
import Derived.Test.YtindbmfccgeikaaFroJ
namespace Go.Proofs.Ytindbmfccgeikaa
set_option linter.unusedSimpArgs false
set_option linter.unusedVariables false
open Go.RowKit

theorem toI_N64 (xs : List Nat) : I64 (toI xs) = N64 xs := by simp [toI, I64, N64, Function.comp_def]
theorem putL_nil : putL [] = [1] := by unfold putL; rw [usedL_nil, putS, digL_zero]; rfl

set_option maxRecDepth 100000 in
set_option maxHeartbeats 8000000 in
theorem frontBack_law (w : World) (ad : Option Addr) (n cap : Nat) (b : List UInt8) (hb : Rd w 1 ad n cap (B8 b)) (z : Nat) (hz : z < 65536) :
    Calls Try.prog 5 #[.slice ad n cap, .int .u16 (z : Int)] w fun e w' => e = .returned (.bool true) ∧ Below w.heap.size w w' := by
  by_cases hn : 2000 < n
  · go_enter Try.func5, Try.ntmps5
    go_wp2_with fail
    go_ret
    exact ⟨rfl, Below.refl _ _⟩
  have hl := hb.len8
  have hput := put_law w ad n cap b hb (by omega)
  have hml := usedL_len b
  have hpl := putL_len b
  have hat := fun i x h => putL_at b (i := i) (x := x) h
  have hnil : n = 0 → usedL b = [] ∧ putL b = [1] := fun h => by
    rw [List.eq_nil_of_length_eq_zero (l := b) (by omega)]; exact ⟨usedL_nil, putL_nil⟩
  have hback := fun h most hm => back_ok b h most hm
  generalize usedL b = U at *
  generalize putL b = P at *
  obtain ⟨m, hm⟩ : ∃ m, U.length = m := ⟨_, rfl⟩
  obtain ⟨p, hp⟩ : ∃ p, P.length = p := ⟨_, rfl⟩
  simp only [hm, hp] at hput hml hpl hat
  rw [hl] at hpl hback
  have HL := Lib.hid hl; clear hl
  have HM := Lib.hid hm; clear hm
  have HP := Lib.hid hp; clear hp
  have HNIL := Lib.hid hnil; clear hnil
  have HAT := Lib.hid hat; clear hat
  have HBACK := Lib.hid hback; clear hback
  go_enter Try.func5, Try.ntmps5
  go_wp2_with fail
  refine hput.mono ?_
  rintro e w1 ⟨a, c, a2, c2, rfl, o1, o2, b1⟩
  have tu := o1.rd
  have ts := o2.rd
  clear o1 o2 hput
  go_wp2_with fail
  go_loopg [7] p (fun k v wr => ∃ i : Nat, i ≤ p ∧ p - i = k ∧ v = .int .i64 (i : Int) ∧ wr = w1)
  case atStart => exact ⟨0, Nat.zero_le _, rfl, rfl, rfl⟩
  case round =>
    obtain ⟨i, hip, rfl, rfl, rfl⟩ := hrel
    rename World => wr
    by_cases hlt : i < p
    · obtain ⟨x, hx⟩ : ∃ x, P[i]? = some x := ⟨_, List.getElem?_eq_getElem (by rw [HP.out]; exact hlt)⟩
      obtain ⟨h1, h2⟩ := HAT.out i x hx
      obtain ⟨ne, cx⟩ := (show Rd wr 1 a2 p c2 (I64 (toI P)) by rw [toI_N64]; exact ts).getI hlt
      have e : atI (toI P) i = (x : Int) := by simp [toI, atI, hx, List.getD_eq_getElem?_getD]
      rw [e] at cx
      clear hx e
      have g1 : ¬ (x : Int) < 0 := by omega
      have g2 : ¬ (m : Int) + 1 < (x : Int) := by omega
      by_cases hxe : x = m + 1
      · have hiz := h2.1 hxe
        have g3 : ((x : Int) == (m : Int) + 1) = true := by rw [beq_iff_eq]; omega
        have g4 : ((i : Int) == (p : Int) - 1) = true := by rw [beq_iff_eq]; omega
        clear h2 hxe
        go_wp2_with fail
        go_roundg (p - (i + 1))
        case measure => omega
        case rel => exact ⟨i + 1, by omega, rfl, by simp, rfl⟩
      · have hiz : ¬ i + 1 = p := fun h => hxe (h2.2 h)
        have g3 : ((x : Int) == (m : Int) + 1) = false := beq_eq_false_iff_ne.2 (by omega)
        have g4 : ((i : Int) == (p : Int) - 1) = false := beq_eq_false_iff_ne.2 (by omega)
        clear h2 hxe
        go_wp2_with fail
        go_roundg (p - (i + 1))
        case measure => omega
        case rel => exact ⟨i + 1, by omega, rfl, by simp, rfl⟩
    · obtain rfl : i = p := by omega
      by_cases hn0 : n = 0
      · subst hn0
        obtain ⟨hU, hP⟩ := HNIL.out rfl
        obtain rfl : m = 0 := by rw [← HM.out, hU]; rfl
        obtain rfl : i = 1 := by rw [← HP.out, hP]; rfl
        clear tu ts hb
        go_wp2_with fail
        refine (says_any _).mono ?_
        rintro e w9 ⟨rfl, b9⟩
        go_wp2_with fail
        go_ret
        exact ⟨rfl, b1.trans (b9.mono b1.size)⟩
      · have hnz : ((n : Int) == 0) = false := beq_eq_false_iff_ne.2 (by omega)
        have hb3 := hb.below b1
        have hgl := fun W (h1 : Rd W 1 a m c (B8 U)) (h2 : Rd W 1 a2 i c2 (N64 P)) => get_law W a m c U h1 a2 i c2 (toI P) (by rw [toI_N64]; exact h2) (n : Int) (by omega) (by omega) (by omega)
        have hget2 := fun W (h1 : Rd W 1 a m c (B8 U)) (h2 : Rd W 1 a2 i c2 (N64 P)) => get_law W a m c U h1 a2 i c2 (toI P) (by rw [toI_N64]; exact h2) (z : Int) (by omega) (by omega) (by omega)
        have hR1 := HBACK.out (by omega) n (by omega)
        rw [if_neg (by omega)] at hR1
        have hR2 := HBACK.out (by omega) z (by omega)
        have hpn : (i : Int) ≤ (n : Int) + 1 := by omega
        have ru := tu
        have rs := ts
        have b13 := b1
        clear tu ts
        go_wp2_with fail
        refine (hgl wr ru rs).mono ?_
        rintro e w5 hg
        obtain ⟨a4, c4, rfl, o4, b35⟩ := hg.ok hR1
        rw [HL.out] at o4 ⊢
        clear hg hgl
        go_wp2_with fail
        by_cases hzn : z < n
        · have t9 : decide ((n : Int) ≤ (z : Int)) = false := deF (by omega)
          have t9n : decide (n ≤ z) = false := deF (by omega)
          rw [if_pos hzn] at hR2
          refine (hget2 w5 (ru.below b35) (rs.below b35)).mono ?_
          rintro e w6 hg
          obtain ⟨rfl, b6⟩ := (hg.err hR2)
          have b46 := b35.trans (b6.mono b35.size)
          have st2 := rstr (o4.rd.below b6)
          have st3 := rstr (hb.below (b13.trans (b46.mono b13.size)))
          clear o4 hg
          go_wp2_with fail
          refine (says_any _).mono ?_
          rintro e w9 ⟨rfl, b9⟩
          go_wp2_with fail
          go_ret
          exact ⟨rfl, (b13.trans (b46.mono b13.size)).trans (b9.mono (by have := (b13.trans (b46.mono b13.size)).size; omega))⟩
        · have t9 : decide ((n : Int) ≤ (z : Int)) = true := deT (by omega)
          have t9n : decide (n ≤ z) = true := deT (by omega)
          rw [if_neg hzn] at hR2
          refine (hget2 w5 (ru.below b35) (rs.below b35)).mono ?_
          rintro e w6 hg
          obtain ⟨a6, c6, rfl, _, b6⟩ := hg.ok hR2
          have b46 := b35.trans (b6.mono b35.size)
          have st2 := rstr (o4.rd.below b6)
          have st3 := rstr (hb.below (b13.trans (b46.mono b13.size)))
          clear o4 hg
          go_wp2_with fail
          refine (says_any _).mono ?_
          rintro e w9 ⟨rfl, b9⟩
          go_wp2_with fail
          go_ret
          exact ⟨rfl, (b13.trans (b46.mono b13.size)).trans (b9.mono (by have := (b13.trans (b46.mono b13.size)).size; omega))⟩
end Go.Proofs.Ytindbmfccgeikaa
