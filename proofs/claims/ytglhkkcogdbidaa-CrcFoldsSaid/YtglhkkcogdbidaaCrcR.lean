/- The reference's sums, bit by bit. -/
import Derived.Test.YtglhkkcogdbidaaCrcC
namespace Go.Proofs.Ytglhkkcogdbidaa
set_option linter.unusedSimpArgs false
set_option linter.unusedVariables false
open Go.RowKit M

theorem rlowReg_step (xs : List UInt8) (k : Nat) (h : k < xs.length) : rlowReg (xs.take (k + 1)) = rlo (rlowReg (xs.take k)) (at8 xs k).toNat 8 := by
  rw [take_at8 xs k h]; simp [rlowReg]
theorem half_step (c m : Nat) : c / 2 ^ m / 2 = c / 2 ^ (m + 1) := by rw [Nat.div_div_eq_div_mul, Nat.pow_succ]

theorem rlo_yes (u : BitVec 32) (d : Nat) (h : (((d : Int) + (u.toNat : Int)) % 2 == 1) = true) : bits .xor .u32 ((u.toNat : Int) / 2) 3988292384 = ((rstep u d).toNat : Int) := by
  have h' : (d + u.toNat) % 2 = 1 := by simp at h; omega
  rw [rstep, if_pos h', bv_shr1, show (3988292384 : Int) = ((0xedb88320#32 : BitVec 32).toNat : Int) from rfl, bv_xor]
theorem rlo_no (u : BitVec 32) (d : Nat) (h : (((d : Int) + (u.toNat : Int)) % 2 == 1) = false) : ((u.toNat : Int) / 2) = ((rstep u d).toNat : Int) := by
  have h' : ¬ (d + u.toNat) % 2 = 1 := by simp at h; omega
  rw [rstep, if_neg h', bv_shr1]
theorem int32 {a b : Int} (h : a = b) : Value.int .u32 a = .int .u32 b := by rw [h]

set_option maxHeartbeats 400000 in
theorem rlow_any (w : World) (ad : Option Addr) (n cap : Nat) (xs : List UInt8) (hb : Rd w 1 ad n cap (B8 xs)) :
    Calls Try.prog 11 #[.slice ad n cap] w fun e w' => e = .returned (.int .u32 ((lowS xs).toNat : Int)) ∧ w = w' := by
  have hlen := hb.len8
  have hcap : n ≤ 9223372036854775807 := by have := hb.ncap; have := hb.capM; unfold maxLen at this; omega
  have HL := Lib.hid hlen; clear hlen
  go_enter Try.func11, Try.ntmps11
  go_wp2_with fail
  go_loopg [3, 4] n (fun k v i wr => ∃ j : Nat, j ≤ n ∧ k = n - j ∧ i = .int .i64 (j : Int) ∧ v = .int .u32 ((rlowReg (xs.take j)).toNat : Int) ∧ w = wr)
  case atStart => exact ⟨0, by omega, rfl, rfl, rfl, rfl⟩
  case round =>
    obtain ⟨j, hj, hk, rfl, rfl, rfl⟩ := hrel
    have HK := Lib.hid hk; clear hk
    by_cases hlt : j < n
    · have HS := Lib.hid (rlowReg_step xs j (by rw [HL.out]; exact hlt))
      generalize hv : rlowReg (xs.take j) = v at HS ⊢
      generalize hc' : at8 xs j = c at HS
      obtain ⟨hne, hc⟩ := hb.get8 hlt
      rw [hc'] at hc
      have HV := Lib.hid hv; clear hv hc'
      go_wp2_with fail
      go_loopg [3, 5, 6] 8 (fun k v' d i wr => ∃ m d' : Nat, m ≤ 8 ∧ k = 8 - m ∧ i = .int .i64 (m : Int) ∧ v' = .int .u32 ((rlo v c.toNat m).toNat : Int) ∧ d = .int .u8 (d' : Int) ∧ d' = c.toNat / 2 ^ m ∧ w = wr)
      case atStart => exact ⟨0, c.toNat, by omega, rfl, rfl, rfl, rfl, by simp, rfl⟩
      case round =>
        obtain ⟨m, d, hm, hk2, rfl, rfl, rfl, hd, rfl⟩ := hrel
        have HK2 := Lib.hid hk2; clear hk2
        by_cases hlt2 : m < 8
        · have hdl : d < 256 := by rw [hd]; have := c.toNat_lt; have := Nat.div_le_self c.toNat (2 ^ m); omega
          have HD := Lib.hid hd; clear hd
          generalize hu : rlo v c.toNat m = u
          have HU := Lib.hid hu; clear hu
          have hul := u.isLt
          go_wp2_with fail
          · have hy := rlo_yes u d (by assumption)
            go_roundg (8 - (m + 1))
            case measure => have := HK2.out; omega
            case rel => exact ⟨m + 1, d / 2, by omega, rfl, by go_num, int32 (by rw [hy, rlo, HU.out, HD.out]), by go_num, by rw [HD.out, half_step], rfl⟩
          · have hy := rlo_no u d (by assumption)
            go_roundg (8 - (m + 1))
            case measure => have := HK2.out; omega
            case rel => exact ⟨m + 1, d / 2, by omega, rfl, by go_num, int32 (by rw [hy, rlo, HU.out, HD.out]), by go_num, by rw [HD.out, half_step], rfl⟩
        · obtain rfl : m = 8 := by omega
          go_wp2_with fail
          go_roundg (n - (j + 1))
          case measure => have := HK.out; omega
          case rel => exact ⟨j + 1, by omega, rfl, by go_num, int32 (by rw [HS.out]), rfl⟩
    · obtain rfl : j = n := by omega
      have hvl := (rlowReg (List.take j xs)).isLt
      go_wp2
      go_ret
      exact ⟨ret32 (by rw [List.take_of_length_le (by rw [HL.out]; exact Nat.le_refl _)]; exact (bv_not _).trans (by first | (rw [rlowReg_eq]; rfl) | (rw [rhighReg_eq]; rfl))), rfl⟩

theorem rhighReg_step (xs : List UInt8) (k : Nat) (h : k < xs.length) : rhighReg (xs.take (k + 1)) = rhi (rhighReg (xs.take k)) (at8 xs k).toNat 8 := by
  rw [take_at8 xs k h]; simp [rhighReg]

theorem quo_cast (c q : Nat) : (c : Int) / 2 ^ q = ((c / 2 ^ q : Nat) : Int) := by
  rw [Int.natCast_ediv, Int.natCast_pow]; rfl
theorem rhi_yes (u : BitVec 32) (c q : Nat) (h : (((c : Int) / 2 ^ q + (u.toNat : Int) / 2147483648) % 2 == 1) = true) : bits .xor .u32 ((u.toNat : Int) * 2 % 4294967296) 79764919 = ((hstep u (c / 2 ^ q)).toNat : Int) := by
  rw [quo_cast] at h
  have e := bv_shr31 u
  have h' : (c / 2 ^ q + (u >>> 31).toNat) % 2 = 1 := by simp only [beq_iff_eq] at h; omega
  rw [hstep, if_pos h', bv_shl1, show (79764919 : Int) = ((0x04c11db7#32 : BitVec 32).toNat : Int) from rfl, bv_xor]
theorem rhi_no (u : BitVec 32) (c q : Nat) (h : (((c : Int) / 2 ^ q + (u.toNat : Int) / 2147483648) % 2 == 1) = false) : ((u.toNat : Int) * 2 % 4294967296) = ((hstep u (c / 2 ^ q)).toNat : Int) := by
  rw [quo_cast] at h
  have e := bv_shr31 u
  have h' : ¬ (c / 2 ^ q + (u >>> 31).toNat) % 2 = 1 := by
    intro h2
    have : (((c / 2 ^ q : Nat) : Int) + (u.toNat : Int) / 2147483648) % 2 = 1 := by omega
    rw [this] at h; cases h
  rw [hstep, if_neg h', bv_shl1]

set_option maxHeartbeats 400000 in
theorem rhigh_any (w : World) (ad : Option Addr) (n cap : Nat) (xs : List UInt8) (hb : Rd w 1 ad n cap (B8 xs)) :
    Calls Try.prog 13 #[.slice ad n cap] w fun e w' => e = .returned (.int .u32 ((highS xs).toNat : Int)) ∧ w = w' := by
  have hlen := hb.len8
  have hcap : n ≤ 9223372036854775807 := by have := hb.ncap; have := hb.capM; unfold maxLen at this; omega
  have HL := Lib.hid hlen; clear hlen
  go_enter Try.func13, Try.ntmps13
  go_wp2_with fail
  go_loopg [3, 4] n (fun k v i wr => ∃ j : Nat, j ≤ n ∧ k = n - j ∧ i = .int .i64 (j : Int) ∧ v = .int .u32 ((rhighReg (xs.take j)).toNat : Int) ∧ w = wr)
  case atStart => exact ⟨0, by omega, rfl, rfl, rfl, rfl⟩
  case round =>
    obtain ⟨j, hj, hk, rfl, rfl, rfl⟩ := hrel
    have HK := Lib.hid hk; clear hk
    by_cases hlt : j < n
    · have HS := Lib.hid (rhighReg_step xs j (by rw [HL.out]; exact hlt))
      generalize hv : rhighReg (xs.take j) = v at HS ⊢
      generalize hc' : at8 xs j = c at HS
      obtain ⟨hne, hc⟩ := hb.get8 hlt
      rw [hc'] at hc
      have HV := Lib.hid hv; clear hv hc'
      go_wp2_with fail
      go_loopg [3, 5] 8 (fun k v' i wr => ∃ m : Nat, m ≤ 8 ∧ k = 8 - m ∧ i = .int .i64 (7 - (m : Int)) ∧ v' = .int .u32 ((rhi v c.toNat m).toNat : Int) ∧ w = wr)
      case atStart => exact ⟨0, by omega, rfl, rfl, rfl, rfl⟩
      case round =>
        obtain ⟨m, hm, hk2, rfl, rfl, rfl⟩ := hrel
        have HK2 := Lib.hid hk2; clear hk2
        by_cases hlt2 : m < 8
        · have hcl := c.toNat_lt
          generalize hu : rhi v c.toNat m = u
          have HU := Lib.hid hu; clear hu
          have hul := u.isLt
          go_wp2_with fail
          · have hy := rhi_yes u c.toNat (7 - m) (by assumption)
            go_roundg (8 - (m + 1))
            case measure => have := HK2.out; omega
            case rel => exact ⟨m + 1, by omega, rfl, by go_num, int32 (by rw [hy, rhi, HU.out]), rfl⟩
          · have hy := rhi_no u c.toNat (7 - m) (by assumption)
            go_roundg (8 - (m + 1))
            case measure => have := HK2.out; omega
            case rel => exact ⟨m + 1, by omega, rfl, by go_num, int32 (by rw [hy, rhi, HU.out]), rfl⟩
        · have hge : ¬ ((0 : Int) ≤ 7 - (m : Int)) := by omega
          go_wp2_with fail
          go_roundg (n - (j + 1))
          case measure => have := HK.out; omega
          case rel => exact ⟨j + 1, by omega, rfl, by go_num, int32 (by rw [HS.out]; rw [show m = 8 by omega]), rfl⟩
    · obtain rfl : j = n := by omega
      have hvl := (rhighReg (List.take j xs)).isLt
      go_wp2
      go_ret
      exact ⟨ret32 (by rw [List.take_of_length_le (by rw [HL.out]; exact Nat.le_refl _)]; exact (bv_not _).trans (by first | (rw [rlowReg_eq]; rfl) | (rw [rhighReg_eq]; rfl))), rfl⟩

theorem fold_any (a b : BitVec 32) (w : World) :
    Calls Try.prog 15 #[.int .u32 (a.toNat : Int), .int .u32 (b.toNat : Int)] w fun e w' => e = .returned (.int .u32 ((foldS a b).toNat : Int)) ∧ w = w' := by
  have ha := a.isLt
  go_enter Try.func15, Try.ntmps15
  go_wp2
  go_ret
  exact ⟨ret32 (by rw [bv_shl1, bv_shr31, bv_xor, bv_xor]; rfl), rfl⟩
theorem rfold_any (a b : BitVec 32) (w : World) :
    Calls Try.prog 16 #[.int .u32 (a.toNat : Int), .int .u32 (b.toNat : Int)] w fun e w' => e = .returned (.int .u32 ((foldS a b).toNat : Int)) ∧ w = w' := by
  have ha := a.isLt
  have e : (a.toNat : Int) * (2 : Int) % (4294967296 : Int) + (a.toNat : Int) / (2147483648 : Int) = (((a <<< 1 ^^^ a >>> 31 : BitVec 32)).toNat : Int) := by
    have h1 := bv_shl1 a
    have h2 := bv_shr31 a
    have h0 : (a <<< 1) &&& (a >>> 31) = 0#32 := by
      apply BitVec.eq_of_getLsbD_eq
      intro i hi
      simp only [BitVec.getLsbD_and, BitVec.getLsbD_shiftLeft, BitVec.getLsbD_ushiftRight, BitVec.getLsbD_zero]
      by_cases h : i < 1
      · simp [h]
      · rw [BitVec.getLsbD_of_ge a (31 + i) (by omega)]; simp
    have h3 : (a <<< 1 ^^^ a >>> 31 : BitVec 32) = (a <<< 1) + (a >>> 31) := by
      rw [BitVec.add_eq_or_of_and_eq_zero _ _ h0]
      apply BitVec.eq_of_getLsbD_eq
      intro i hi
      have := congrArg (fun z => BitVec.getLsbD z i) h0
      simp only [BitVec.getLsbD_and, BitVec.getLsbD_zero] at this
      simp only [BitVec.getLsbD_xor, BitVec.getLsbD_or]
      cases h5 : (a <<< 1).getLsbD i <;> cases h6 : (a >>> 31).getLsbD i <;> simp_all
    rw [h3, BitVec.toNat_add]
    have := (a <<< 1).isLt
    omega
  have HE := Lib.hid e; clear e
  go_enter Try.func16, Try.ntmps16
  go_wp2
  go_ret
  exact ⟨ret32 (by have := HE.out; rw [this, bv_xor]; rfl), rfl⟩

set_option maxHeartbeats 400000 in
theorem turn_any (v : BitVec 32) (n : Nat) (hn : n ≤ 32) (w : World) :
    Calls Try.prog 17 #[.int .u32 (v.toNat : Int), .int .i64 (n : Int)] w fun e w' => e = .returned (.int .u32 ((turnO v n).toNat : Int)) ∧ w = w' := by
  go_enter Try.func17, Try.ntmps17
  go_wp2_with fail
  go_loopg [0, 5, 6] n (fun k a o i wr => ∃ j : Nat, j ≤ n ∧ k = n - j ∧ i = .int .i64 (j : Int) ∧ a = .int .u32 ((v >>> j).toNat : Int) ∧ o = .int .u32 ((turnO v j).toNat : Int) ∧ w = wr)
  case atStart => exact ⟨0, by omega, rfl, rfl, by simp, rfl, rfl⟩
  case round =>
    obtain ⟨j, hj, hk, rfl, rfl, rfl, rfl⟩ := hrel
    have HK := Lib.hid hk; clear hk
    have h1 : (((v >>> j).toNat : Int)) / (2 : Int) = ((v >>> (j + 1)).toNat : Int) := by
      rw [bv_shr1, ← BitVec.shiftRight_add]
    have h2 : ((turnO v (j + 1)).toNat : Int) = ((turnO v j).toNat * (2 : Int) % (4294967296 : Int) + ((v >>> j).toNat : Int) % (2 : Int)) % (4294967296 : Int) := by
      rw [turnO, BitVec.toNat_add, BitVec.toNat_mul, BitVec.toNat_umod]
      simp
    have H1 := Lib.hid h1; clear h1
    have H2 := Lib.hid h2; clear h2
    generalize v >>> j = u at H1 H2 ⊢
    generalize hx : turnO v j = x at H2 ⊢
    have HX := Lib.hid hx; clear hx
    have hvl := u.isLt
    have hol := x.isLt
    by_cases hlt : j < n
    · go_wp2_with fail
      go_roundg (n - (j + 1))
      case measure => have := HK.out; omega
      case rel => exact ⟨j + 1, by omega, rfl, by go_num, int32 (by rw [← H1.out]), int32 (by rw [H2.out]; omega), rfl⟩
    · obtain rfl : j = n := by omega
      go_wp2
      go_ret
      exact ⟨ret32 (by rw [HX.out]), rfl⟩
end Go.Proofs.Ytglhkkcogdbidaa
