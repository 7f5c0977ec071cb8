/- Low and High: what they answer, by the tables. -/
import Derived.Test.YtglhkkcogdbidaaCrcB
namespace Go.Proofs.Ytglhkkcogdbidaa
set_option linter.unusedSimpArgs false
set_option linter.unusedVariables false
open Go.RowKit M

theorem take_at8 (xs : List UInt8) (k : Nat) (h : k < xs.length) : xs.take (k + 1) = xs.take k ++ [at8 xs k] := by
  rw [List.take_succ_eq_append_getElem h]; simp [at8, h]
theorem lowReg_step (xs : List UInt8) (k : Nat) (h : k < xs.length) : lowReg (xs.take (k + 1)) = lowReg (xs.take k) >>> 8 ^^^ lowTab ((lowReg (xs.take k)).setWidth 8 ^^^ (at8 xs k).toBitVec).toNat := by
  rw [take_at8 xs k h]; simp [lowReg, lbyte]
theorem highReg_step (xs : List UInt8) (k : Nat) (h : k < xs.length) : highReg (xs.take (k + 1)) = highReg (xs.take k) <<< 8 ^^^ highTab ((highReg (xs.take k) >>> 24).setWidth 8 ^^^ (at8 xs k).toBitVec).toNat := by
  rw [take_at8 xs k h]; simp [highReg, hbyte]

theorem b8_of (z : BitVec 8) : BitVec.ofInt 8 (z.toNat : Int) = z := by rw [BitVec.ofInt_natCast, BitVec.ofNat_toNat]; simp
theorem b8_xor (x y : BitVec 8) : bits .xor .u8 (x.toNat : Int) (y.toNat : Int) = ((x ^^^ y).toNat : Int) := by
  show IntKind.u8.wrap ((BitVec.ofInt 8 (x.toNat:Int) ^^^ BitVec.ofInt 8 (y.toNat:Int)).toNat : Int) = _
  rw [b8_of, b8_of, IntKind.wrap_u8]; have := (x ^^^ y).isLt; omega
theorem b8_low (v : BitVec 32) : (v.toNat : Int) % (256 : Int) = ((v.setWidth 8 : BitVec 8).toNat : Int) := by
  rw [BitVec.toNat_setWidth]; omega
theorem u8_toBitVec (c : UInt8) : (c.toNat : Int) = (c.toBitVec.toNat : Int) := rfl
theorem ix_int (v : BitVec 32) (c : UInt8) : bits .xor .u8 ((v.toNat : Int) % (256 : Int)) (c.toNat : Int) = ((v.setWidth 8 ^^^ c.toBitVec : BitVec 8).toNat : Int) := by
  rw [b8_low, u8_toBitVec, b8_xor]
theorem b8_high (v : BitVec 32) : (v.toNat : Int) / (16777216 : Int) = (((v >>> 24).setWidth 8 : BitVec 8).toNat : Int) := by
  rw [BitVec.toNat_setWidth, BitVec.toNat_ushiftRight, Nat.shiftRight_eq_div_pow]; have := v.isLt; omega
theorem ixh_int (v : BitVec 32) (c : UInt8) : bits .xor .u8 ((v.toNat : Int) / (16777216 : Int)) (c.toNat : Int) = (((v >>> 24).setWidth 8 ^^^ c.toBitVec : BitVec 8).toNat : Int) := by
  rw [b8_high, u8_toBitVec, b8_xor]
theorem bv_notmax (x : BitVec 32) : bits .xor .u32 IntKind.u32.max (x.toNat : Int) = ((~~~x).toNat : Int) := by
  rw [show IntKind.u32.max = ((4294967295#32 : BitVec 32).toNat : Int) from rfl, bv_xor, show (4294967295#32 : BitVec 32) = BitVec.allOnes 32 from rfl, BitVec.allOnes_xor]
theorem bv_not (x : BitVec 32) : bits .xor .u32 (x.toNat : Int) 4294967295 = ((~~~x).toNat : Int) := by
  rw [show (4294967295 : Int) = ((4294967295#32 : BitVec 32).toNat : Int) from rfl, bv_xor, show (4294967295#32 : BitVec 32) = BitVec.allOnes 32 from rfl, BitVec.xor_allOnes]

set_option maxRecDepth 100000 in
set_option maxHeartbeats 400000 in
theorem low_any (w : World) (ad : Option Addr) (n cap : Nat) (xs : List UInt8) (hb : Rd w 1 ad n cap (B8 xs)) :
    Calls Try.prog 10 #[.slice ad n cap] w fun e w' => e = .returned (.int .u32 ((lowS xs).toNat : Int)) ∧ Below w.heap.size w w' := by
  have hz := zero33
  have hlen := hb.len8
  have hcap : n ≤ 9223372036854775807 := by have := hb.ncap; have := hb.capM; unfold maxLen at this; omega
  have HL := Lib.hid hlen; clear hlen
  go_enter Try.func10, Try.ntmps10
  go_upto_region 1 with fail
  refine wp_region_lit ?_
  go_wp2_with (first | (go_at_call 18; refine (lowSteps_any _).mono ?_; rintro e w1 ⟨rfl, hb1⟩) | (refine wpList_store_row rfl 33 _ _ rfl w1.heap.size (tabOf lowTab 256) rfl rfl 33 crcZ (heap_alloc_new w1 _) (by kernel_rfl) (by rw [tabOf_size]; rfl) (tabOf_one _ _) ?_))
  clear hz
  have hT : ((w1.alloc (.cells crcZ 33)).setRow w1.heap.size (tabOf lowTab 256)).heap[w1.heap.size]? = some (.cells (tabOf lowTab 256) 33 (0, 0)) := setRow_heap _ _ _ _ 33 _ (heap_alloc_new w1 _)
  have hB : Below w.heap.size w ((w1.alloc (.cells crcZ 33)).setRow w1.heap.size (tabOf lowTab 256)) :=
    (hb1.alloc hb1.size _).trans ⟨rfl, rfl, rfl, by simp, fun k hk => setRow_other _ w1.heap.size k _ (by have := hb1.size; omega)⟩
  generalize ((w1.alloc (.cells crcZ 33)).setRow w1.heap.size (tabOf lowTab 256)) = W2 at hT hB ⊢
  have HT := Lib.hid hT; clear hT
  go_loopg [4, 10] n (fun k v i wr => ∃ j : Nat, j ≤ n ∧ k = n - j ∧ i = .int .i64 (j : Int) ∧ v = .int .u32 ((lowReg (xs.take j)).toNat : Int) ∧ W2 = wr)
  case atStart => exact ⟨0, by omega, rfl, rfl, rfl, rfl⟩
  case round =>
    obtain ⟨j, hj, hk, rfl, rfl, rfl⟩ := hrel
    have HK := Lib.hid hk; clear hk
    by_cases hlt : j < n
    · have HS := Lib.hid (lowReg_step xs j (by rw [HL.out]; exact hlt))
      generalize hv : lowReg (xs.take j) = v at HS ⊢
      generalize hc' : at8 xs j = c at HS
      obtain ⟨hne, hc⟩ := (hb.below hB).get8 hlt
      rw [hc'] at hc
      have HV := Lib.hid hv; clear hv hc'
      have hx := ix_int v c
      generalize hix : (v.setWidth 8 ^^^ c.toBitVec : BitVec 8).toNat = ix at hx HS
      have hixl : ix < 256 := by rw [← hix]; exact (BitVec.isLt _)
      have htc : W2.cell? ⟨w1.heap.size, ix, none⟩ = some (.int .u32 ((lowTab ix).toNat : Int)) := by
        rw [cell_of_row _ _ _ _ _ _ HT.out, tabOf_get _ _ _ hixl, if_pos hixl]
      have hvl := v.isLt
      clear hix
      go_wp2_with (refine wpList_ixa rfl _ _ 33 rfl Try.underlying33 (sz := 1) (by kernel_rfl) rfl rfl ix hx hixl ?_)
      go_roundg (n - (j + 1))
      case measure => have := HK.out; omega
      case rel => exact ⟨j + 1, by omega, rfl, by go_num, by rw [HS.out, bv_shr8, bv_xor], rfl⟩
    · obtain rfl : j = n := by omega
      have hvl := (lowReg (List.take j xs)).isLt
      go_wp2
      go_ret
      refine ⟨ret32 ?_, hB⟩
      rw [lowS, List.take_of_length_le (by rw [HL.out]; exact Nat.le_refl _)]
      exact bv_notmax _

set_option maxRecDepth 100000 in
set_option maxHeartbeats 400000 in
theorem high_any (w : World) (ad : Option Addr) (n cap : Nat) (xs : List UInt8) (hb : Rd w 1 ad n cap (B8 xs)) :
    Calls Try.prog 12 #[.slice ad n cap] w fun e w' => e = .returned (.int .u32 ((highS xs).toNat : Int)) ∧ Below w.heap.size w w' := by
  have hz := zero33
  have hlen := hb.len8
  have hcap : n ≤ 9223372036854775807 := by have := hb.ncap; have := hb.capM; unfold maxLen at this; omega
  have HL := Lib.hid hlen; clear hlen
  go_enter Try.func12, Try.ntmps12
  go_upto_region 1 with fail
  refine wp_region_lit ?_
  go_wp2_with (first | (go_at_call 18; refine (highSteps_any _).mono ?_; rintro e w1 ⟨rfl, hb1⟩) | (refine wpList_store_row rfl 33 _ _ rfl w1.heap.size (tabOf highTab 256) rfl rfl 33 crcZ (heap_alloc_new w1 _) (by kernel_rfl) (by rw [tabOf_size]; rfl) (tabOf_one _ _) ?_))
  clear hz
  have hT : ((w1.alloc (.cells crcZ 33)).setRow w1.heap.size (tabOf highTab 256)).heap[w1.heap.size]? = some (.cells (tabOf highTab 256) 33 (0, 0)) := setRow_heap _ _ _ _ 33 _ (heap_alloc_new w1 _)
  have hB : Below w.heap.size w ((w1.alloc (.cells crcZ 33)).setRow w1.heap.size (tabOf highTab 256)) :=
    (hb1.alloc hb1.size _).trans ⟨rfl, rfl, rfl, by simp, fun k hk => setRow_other _ w1.heap.size k _ (by have := hb1.size; omega)⟩
  generalize ((w1.alloc (.cells crcZ 33)).setRow w1.heap.size (tabOf highTab 256)) = W2 at hT hB ⊢
  have HT := Lib.hid hT; clear hT
  go_loopg [4, 10] n (fun k v i wr => ∃ j : Nat, j ≤ n ∧ k = n - j ∧ i = .int .i64 (j : Int) ∧ v = .int .u32 ((highReg (xs.take j)).toNat : Int) ∧ W2 = wr)
  case atStart => exact ⟨0, by omega, rfl, rfl, rfl, rfl⟩
  case round =>
    obtain ⟨j, hj, hk, rfl, rfl, rfl⟩ := hrel
    have HK := Lib.hid hk; clear hk
    by_cases hlt : j < n
    · have HS := Lib.hid (highReg_step xs j (by rw [HL.out]; exact hlt))
      generalize hv : highReg (xs.take j) = v at HS ⊢
      generalize hc' : at8 xs j = c at HS
      obtain ⟨hne, hc⟩ := (hb.below hB).get8 hlt
      rw [hc'] at hc
      have HV := Lib.hid hv; clear hv hc'
      have hx := ixh_int v c
      generalize hix : ((v >>> 24).setWidth 8 ^^^ c.toBitVec : BitVec 8).toNat = ix at hx HS
      have hixl : ix < 256 := by rw [← hix]; exact (BitVec.isLt _)
      have htc : W2.cell? ⟨w1.heap.size, ix, none⟩ = some (.int .u32 ((highTab ix).toNat : Int)) := by
        rw [cell_of_row _ _ _ _ _ _ HT.out, tabOf_get _ _ _ hixl, if_pos hixl]
      have hvl := v.isLt
      clear hix
      go_wp2_with (refine wpList_ixa rfl _ _ 33 rfl Try.underlying33 (sz := 1) (by kernel_rfl) rfl rfl ix hx hixl ?_)
      go_roundg (n - (j + 1))
      case measure => have := HK.out; omega
      case rel => exact ⟨j + 1, by omega, rfl, by go_num, by rw [HS.out, bv_shl8, bv_xor], rfl⟩
    · obtain rfl : j = n := by omega
      have hvl := (highReg (List.take j xs)).isLt
      go_wp2
      go_ret
      refine ⟨ret32 ?_, hB⟩
      rw [highS, List.take_of_length_le (by rw [HL.out]; exact Nat.le_refl _)]
      exact bv_notmax _

end Go.Proofs.Ytglhkkcogdbidaa
