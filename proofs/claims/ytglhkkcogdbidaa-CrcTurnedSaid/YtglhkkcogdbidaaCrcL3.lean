/- The laws CrcRest and CrcKnown, walked. -/
import Derived.Test.YtglhkkcogdbidaaCrcS
namespace Go.Proofs.Ytglhkkcogdbidaa
set_option linter.unusedSimpArgs false
set_option linter.unusedVariables false
open Go.RowKit M

theorem u8_bytes (v : BitVec 32) : (v.toNat : Int) % (256 : Int) = (((⟨v.setWidth 8⟩ : UInt8)).toNat : Int) := b8_low v
theorem u8_sh8 (v : BitVec 32) : (v.toNat : Int) / (256 : Int) % (256 : Int) = (((⟨(v >>> 8).setWidth 8⟩ : UInt8)).toNat : Int) := by rw [bv_shr8]; exact b8_low _
theorem u8_sh16 (v : BitVec 32) : (v.toNat : Int) / (65536 : Int) % (256 : Int) = (((⟨(v >>> 16).setWidth 8⟩ : UInt8)).toNat : Int) := by
  have := b8_low (v >>> 16)
  show _ = (((v >>> 16).setWidth 8 : BitVec 8).toNat : Int)
  rw [← this]; simp [BitVec.toNat_ushiftRight, Nat.shiftRight_eq_div_pow]
theorem u8_sh24 (v : BitVec 32) : (v.toNat : Int) / (16777216 : Int) = (((⟨(v >>> 24).setWidth 8⟩ : UInt8)).toNat : Int) := b8_high v

set_option maxHeartbeats 400000 in
theorem crcRest_law (w : World) (ad : Option Addr) (n cap : Nat) (xs : List UInt8) (hb : Rd w 1 ad n cap (B8 xs)) :
    Calls Try.prog 8 #[.slice ad n cap] w fun e w' => e = .returned (.bool true) ∧ Below w.heap.size w w' := by
  by_cases hn : 5000 < n
  · go_enter Try.func8, Try.ntmps8
    go_wp2
    go_ret
    exact ⟨rfl, Below.refl _ _⟩
  · have hrl := congrArg BitVec.toNat (rest_low xs)
    have hrh := congrArg BitVec.toNat (rest_high xs)
    have HRL := Lib.hid hrl; clear hrl
    have HRH := Lib.hid hrh; clear hrh
    have hlen := hb.len8
    have HL := Lib.hid hlen; clear hlen
    go_enter Try.func8, Try.ntmps8
    go_wp2_with fail
    refine (low_any _ _ _ _ xs hb).mono ?_
    rintro e w1 ⟨rfl, hb1⟩
    go_wp2_with fail
    refine (high_any _ _ _ _ xs (hb.below hb1)).mono ?_
    rintro e w2 ⟨rfl, hb2'⟩
    have hb2 := hb1.trans (hb2'.mono hb1.size)
    clear hb1 hb2'
    generalize hv : lowS xs = v at HRL ⊢
    generalize hu : highS xs = u at HRH ⊢
    have HV := Lib.hid hv; clear hv
    have HU := Lib.hid hu; clear hu
    have hvl := v.isLt
    have hul := u.isLt
    have hbb := hb.below hb2
    go_wp2_with (first | (refine wpList_clone rfl _ _ _ rfl elB rfl rfl hbb (by unfold maxLen; omega) (by omega) ?_; intro ai ci w3 hi hb3 hs3) | (refine wpList_pushes rfl _ _ _ rfl elB rfl rfl hi rfl (by simp [Value.oneCell']) (by unfold maxLen; omega) (by omega) (Nat.le_of_lt hs3) ?_; intro aj cj w4 hj hg4 _))
    rw [u8_bytes, u8_sh8, u8_sh16, u8_sh24] at hj
    have hj4 : Own w4 5 1 w2.heap.size aj (n + 4) cj (B8 (xs ++ le4 v)) := by rw [← B8_app]; exact hj
    have hb4 := Own.grown hb3 hi hg4 (Nat.le_of_lt hs3) (Nat.le_refl _)
    refine (low_any _ _ _ _ _ hj4.rd).mono ?_
    rintro e w5 ⟨rfl, hb5⟩
    rw [HRL.out]
    have hb25 := hb2.trans ((hb4.trans (hb5.mono hb4.size)).mono hb2.size)
    have hbq := hb.below hb25
    clear hj hj4 hg4 hi hb3 hb4 hb5 hs3
    go_wp2_with (first | (refine wpList_clone rfl _ _ _ rfl elB rfl rfl hbq (by unfold maxLen; omega) (by omega) ?_; intro ai ci w6 hi hb6 hs6) | (refine wpList_pushes rfl _ _ _ rfl elB rfl rfl hi rfl (by simp [Value.oneCell']) (by unfold maxLen; omega) (by omega) (Nat.le_of_lt hs6) ?_; intro aj cj w7 hj hg7 _))
    rw [u8_bytes, u8_sh8, u8_sh16, u8_sh24] at hj
    have hj4 : Own w7 5 1 w5.heap.size aj (n + 4) cj (B8 (xs ++ be4 u)) := by rw [← B8_app]; exact hj
    have hb7 := Own.grown hb6 hi hg7 (Nat.le_of_lt hs6) (Nat.le_refl _)
    refine (high_any _ _ _ _ _ hj4.rd).mono ?_
    rintro e w8 ⟨rfl, hb8⟩
    rw [HRH.out]
    have hb28 := hb25.trans ((hb7.trans (hb8.mono hb7.size)).mono hb25.size)
    clear hj hj4 hg7 hi hb6 hb7 hb8 hs6
    go_wp2_with fail
    refine (sums_any _).mono ?_
    rintro e w9 ⟨rfl, hb9⟩
    go_wp2
    go_ret
    exact ⟨rfl, hb28.trans (hb9.mono hb28.size)⟩

theorem low0 : (lowS []).toNat = 0 := by decide +kernel
theorem high0 : (highS []).toNat = 0 := by decide +kernel
theorem lowabc : (lowS [97, 98, 99]).toNat = 891568578 := by decide +kernel
theorem lowz : (lowS [0]).toNat = 3523407757 := by decide +kernel
theorem fold0 : (foldS 0#32 0#32).toNat = 0 := by decide +kernel
theorem fold1 : (foldS 2147483648#32 0#32).toNat = 1 := by decide +kernel
theorem fold3 : (foldS 3#32 1#32).toNat = 7 := by decide +kernel
theorem Rd.nil0 (w : World) : Rd w 1 none 0 0 (B8 []) := (Own.nil w 0 1 0).rd

set_option maxHeartbeats 400000 in
theorem crcKnown_law (w : World) :
    Calls Try.prog 9 #[] w fun e w' => e = .returned (.bool true) ∧ Below w.heap.size w w' := by
  have kc := fun (w : World) (C : Array Value) (n c : Nat) => Lib.run_convert_bytes_const (P := Try.prog) w 22 5 C n c Try.underlying22 Try.underlying5
  go_enter Try.func9, Try.ntmps9
  go_wp2_with fail
  refine (low_any _ _ _ _ [] (Rd.nil0 _)).mono ?_
  rintro e w1 ⟨rfl, hb1⟩
  rw [low0]
  go_wp2_with fail
  refine (high_any _ _ _ _ [] (Rd.nil0 _)).mono ?_
  rintro e w2 ⟨rfl, hb2⟩
  rw [high0]
  go_wp2_with fail
  refine (low_lit _ _ [97, 98, 99] (by decide) _ lowabc).mono ?_
  rintro e w3 ⟨rfl, hb3⟩
  go_wp2_with fail
  refine (low_lit _ _ [0] (by decide) _ lowz).mono ?_
  rintro e w4 ⟨rfl, hb4⟩
  go_wp2_with fail
  refine (fold_any 0#32 0#32 _).mono ?_
  rintro e w5 ⟨rfl, rfl⟩
  rw [fold0]
  go_wp2_with fail
  refine (fold_any 2147483648#32 0#32 _).mono ?_
  rintro e w5 ⟨rfl, rfl⟩
  rw [fold1]
  go_wp2_with fail
  refine (fold_any 3#32 1#32 _).mono ?_
  rintro e w5 ⟨rfl, rfl⟩
  rw [fold3]
  go_wp2_with fail
  refine (sums_any _).mono ?_
  rintro e w5 ⟨rfl, hb5⟩
  go_wp2
  go_ret
  have := hb1.size; have := hb2.size; have := hb3.size; have := hb4.size
  exact ⟨rfl, hb1.trans ((hb2.mono (by omega)).trans ((hb3.mono (by omega)).trans ((hb4.mono (by omega)).trans (hb5.mono (by omega)))))⟩
end Go.Proofs.Ytglhkkcogdbidaa
