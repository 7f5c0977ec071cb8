/- The law CrcTurned, walked. -/
import Derived.Test.YtglhkkcogdbidaaCrcL3
namespace Go.Proofs.Ytglhkkcogdbidaa
set_option linter.unusedSimpArgs false
set_option linter.unusedVariables false
open Go.RowKit M

theorem turn8_any (c : UInt8) (w : World) :
    Calls Try.prog 17 #[.int .u32 (c.toNat : Int), .int .i64 8] w fun e w' => e = .returned (.int .u32 ((turnO (ext8 c.toBitVec) 8).toNat : Int)) ∧ w = w' := by
  have e : (c.toNat : Int) = ((ext8 c.toBitVec).toNat : Int) := by
    show (c.toBitVec.toNat : Int) = _
    rw [ext8, BitVec.toNat_setWidth]; have := c.toBitVec.isLt; omega
  rw [e]; exact turn_any _ 8 (by decide) w
theorem turn8_low (c : UInt8) : ((turnO (ext8 c.toBitVec) 8).toNat : Int) % (256 : Int) = ((rev8 c).toNat : Int) := by
  rw [b8_low, turnO_8]; rfl
theorem map_take (xs : List UInt8) (j : Nat) (h : j < xs.length) : B8 ((xs.take j).map rev8) ++ [.int .u8 ((rev8 (at8 xs j)).toNat : Int)] = B8 ((xs.take (j + 1)).map rev8) := by
  rw [take_at8 xs j h]; simp [B8]

set_option maxHeartbeats 400000 in
theorem crcTurned_law (w : World) (ad : Option Addr) (n cap : Nat) (xs : List UInt8) (hb : Rd w 1 ad n cap (B8 xs)) :
    Calls Try.prog 6 #[.slice ad n cap] w fun e w' => e = .returned (.bool true) ∧ Below w.heap.size w w' := by
  by_cases hn : 5000 < n
  · go_enter Try.func6, Try.ntmps6
    go_wp2
    go_ret
    exact ⟨rfl, Below.refl _ _⟩
  · have hlen := hb.len8
    have HL := Lib.hid hlen; clear hlen
    go_enter Try.func6, Try.ntmps6
    go_wp2_with fail
    go_loopg [3, 4] n (fun k c i wr => ∃ (j : Nat) (ac : Option Addr) (cc : Nat), j ≤ n ∧ k = n - j ∧ i = .int .i64 (j : Int) ∧ c = .slice ac j cc ∧ Own wr 5 1 w.heap.size ac j cc (B8 ((xs.take j).map rev8)) ∧ Below w.heap.size w wr)
    case atStart => exact ⟨0, none, 0, by omega, rfl, rfl, rfl, Own.nil _ _ _ _, Below.refl _ _⟩
    case round =>
      obtain ⟨j, ac, cc, hj, hk, rfl, rfl, ho, hbl⟩ := hrel
      have HK := Lib.hid hk; clear hk
      have hbr := hb.below hbl
      have hsz := hbl.size
      by_cases hlt : j < n
      · have HM := Lib.hid (map_take xs j (by rw [HL.out]; exact hlt))
        obtain ⟨hne, hc⟩ := hbr.get8 hlt
        generalize at8 xs j = c at hc HM
        have hcl := c.toNat_lt
        go_wp2_with (first | (go_at_call 17; refine (turn8_any c _).mono ?_; rintro e w' ⟨rfl, rfl⟩) | (refine wpList_push rfl _ _ _ rfl elB rfl rfl ho rfl (by simp [Value.oneCell']) (by unfold maxLen; omega) (by omega) hsz ?_; intro a2 c2 w2 ho2 hg2 _))
        rw [turn8_low, HM.out] at ho2
        go_roundg (n - (j + 1))
        case measure => have := HK.out; omega
        case rel => exact ⟨j + 1, a2, c2, by omega, rfl, by go_num, rfl, ho2, Own.grown hbl ho hg2 hsz (Nat.le_refl _)⟩
      · obtain rfl : j = n := by omega
        have ht := turned xs
        rw [List.take_of_length_le (by rw [HL.out]; exact Nat.le_refl _)] at ho
        have HT := Lib.hid ht; clear ht
        go_wp2_with fail
        refine (high_any _ _ _ _ xs hbr).mono ?_
        rintro e w2 ⟨rfl, hb2⟩
        go_wp2_with fail
        refine (low_any _ _ _ _ _ (ho.below hb2).rd).mono ?_
        rintro e w3 ⟨rfl, hb3⟩
        go_wp2_with fail
        refine (turn_any _ 32 (by decide) _).mono ?_
        rintro e w4 ⟨rfl, rfl⟩
        rw [← HT.out]
        go_wp2_with fail
        refine (sums_any _).mono ?_
        rintro e w4 ⟨rfl, hb4⟩
        go_wp2
        go_ret
        have := hb2.size; have := hb3.size
        exact ⟨rfl, hbl.trans ((hb2.mono (by omega)).trans ((hb3.mono (by omega)).trans (hb4.mono (by omega))))⟩
end Go.Proofs.Ytglhkkcogdbidaa
