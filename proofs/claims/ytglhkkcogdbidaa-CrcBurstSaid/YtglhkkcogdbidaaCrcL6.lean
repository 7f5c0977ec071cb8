/- The law CrcBurst, walked. -/
import Derived.Test.YtglhkkcogdbidaaCrcL5
import Derived.Test.YtglhkkcogdbidaaCrcO
namespace Go.Proofs.Ytglhkkcogdbidaa
set_option linter.unusedSimpArgs false
set_option linter.unusedVariables false
open Go.RowKit M

theorem Own.some1 {w : World} {e sz lo : Nat} {ad : Option Addr} {n cap : Nat} {cs : List Value} (h : Own w e sz lo ad n cap cs) (hn : 0 < n) : ∃ g, ad = some ⟨g, 0, none⟩ ∧ lo ≤ g ∧ g < w.heap.size := by
  obtain ⟨_, hc⟩ := h.cases
  rcases hc with ⟨_, h0, _⟩ | ⟨g, cur, rfl, _⟩
  · omega
  · exact ⟨g, rfl, h.blk rfl⟩
theorem pat_bit (pat : BitVec 32) (i : Nat) : bits .and .u32 ((pat.toNat : Int) / 2 ^ i) 1 = if pat.getLsbD i then 1 else 0 := by
  have e : (pat.toNat : Int) / 2 ^ i = ((pat >>> i).toNat : Int) := by
    rw [BitVec.toNat_ushiftRight, Nat.shiftRight_eq_div_pow, Int.natCast_ediv, Int.natCast_pow]; rfl
  rw [e, show (1 : Int) = ((1#32 : BitVec 32).toNat : Int) from rfl, bv_and, and1, BitVec.getLsbD_ushiftRight, Nat.add_zero]
  cases pat.getLsbD i <;> rfl
theorem pat_yes {pat : BitVec 32} {i : Nat} (h : pat.getLsbD i = true) : (bits .and .u32 ((pat.toNat : Int) / 2 ^ i) 1 == 1) = true := by rw [pat_bit, h]; rfl
theorem pat_no {pat : BitVec 32} {i : Nat} (h : pat.getLsbD i = false) : (bits .and .u32 ((pat.toNat : Int) / 2 ^ i) 1 == 1) = false := by rw [pat_bit, h]; rfl
theorem tmod_bd (a b : Int) (hb : 0 < b) : -b < a.tmod b ∧ a.tmod b < b := by
  have h := Int.natAbs_tmod a b
  have := Nat.mod_lt a.natAbs (show 0 < b.natAbs by omega)
  omega
def k1 (r : Nat) : UInt8 := 1 <<< UInt8.ofNat r
def k2 (r : Nat) : UInt8 := 128 >>> UInt8.ofNat r

theorem sh1 (r : Nat) (h : r < 8) : (2 : Int) ^ r % 256 = ((k1 r).toNat : Int) := by
  have : ∀ r : Fin 8, (2 : Int) ^ r.val % 256 = ((k1 r.val).toNat : Int) := by decide +kernel
  exact this ⟨r, h⟩
theorem sh2 (r : Nat) (h : r < 8) : (128 : Int) / 2 ^ r = ((k2 r).toNat : Int) := by
  have : ∀ r : Fin 8, (128 : Int) / 2 ^ r.val = ((k2 r.val).toNat : Int) := by decide +kernel
  exact this ⟨r, h⟩
theorem B8_set (xs : List UInt8) (q : Nat) (c : UInt8) : (B8 xs).set q (.int .u8 (c.toNat : Int)) = B8 (xs.set q c) := by simp [B8, List.map_set]
theorem flips_yes (k : Nat → UInt8) (pat : BitVec 32) (F : Nat) (xs : List UInt8) (j : Nat) (h : pat.getLsbD j = true) :
    (B8 (flips k pat F xs j)).set ((F + j) / 8) (.int .u8 ((at8 (flips k pat F xs j) ((F + j) / 8) ^^^ k ((F + j) % 8)).toNat : Int)) = B8 (flips k pat F xs (j + 1)) := by
  rw [B8_set]; simp only [flips, h, if_true]; rfl

set_option maxRecDepth 100000 in
set_option maxHeartbeats 1000000 in
theorem crcBurst_law (w : World) (ad : Option Addr) (n cap : Nat) (xs : List UInt8) (hb : Rd w 1 ad n cap (B8 xs)) (at0 : Int) (hat : (-9223372036854775808 : Int) ≤ at0 ∧ at0 ≤ 9223372036854775807) (pat : BitVec 32) :
    Calls Try.prog 5 #[.slice ad n cap, .int .i64 at0, .int .u32 (pat.toNat : Int)] w fun e w' => e = .returned (.bool true) ∧ Below w.heap.size w w' := by
  by_cases hn : 5000 < n
  · have hd : decide ((5000 : Int) < (n : Int)) = true := by simp; omega
    go_enter Try.func5, Try.ntmps5
    go_wp2_with fail
    refine (sums_any _).mono ?_
    rintro e v9 ⟨rfl, k9⟩
    go_wp2
    go_ret
    exact ⟨rfl, k9⟩
  by_cases h0 : n = 0
  · subst h0
    go_enter Try.func5, Try.ntmps5
    go_wp2_with fail
    refine (sums_any _).mono ?_
    rintro e v9 ⟨rfl, k9⟩
    go_wp2
    go_ret
    exact ⟨rfl, k9⟩
  · have hlen := hb.len8
    have HL := Lib.hid hlen; clear hlen
    have hpl := pat.isLt
    have hnpos : 0 < n := by omega
    obtain ⟨hf1, hf2⟩ := tmod_bd at0 (8 * (n : Int)) (by omega)
    clear hat
    have hor : (decide ((5000 : Int) < (n : Int)) || ((n : Int) == 0)) = false := by simp; omega
    go_enter Try.func5, Try.ntmps5
    go_upto_if 29 with fail
    clear hor
    generalize at0.tmod (8 * (n : Int)) = f at hf1 hf2 ⊢
    go_cut [8] (fun s8 wx => ∃ F : Nat, F < 8 * n ∧ s8 = .int .i64 (F : Int) ∧ w = wx)
    case first =>
      by_cases hneg : f < 0
      · have e : f + 8 * (n : Int) = (((f + 8 * (n : Int)).toNat : Nat) : Int) := by omega
        have HE := Lib.hid e; clear e
        go_wp2_with fail
        go_meet
        exact ⟨(f + 8 * (n : Int)).toNat, by omega, congrArg (Value.int .i64) HE.out, rfl⟩
      · have e : f = ((f.toNat : Nat) : Int) := by omega
        have HE := Lib.hid e; clear e
        go_wp2_with fail
        go_meet
        exact ⟨f.toNat, by omega, congrArg (Value.int .i64) HE.out, rfl⟩
    case rest =>
      clear hf1 hf2
      obtain ⟨F, hF, rfl, rfl⟩ := hcut
      go_upto_region 8 with (refine wpList_clone rfl _ _ _ rfl elB rfl rfl hb (by unfold maxLen; omega) (by omega) ?_; intro ac cc w1 hc hb1 hs1; obtain ⟨gc, rfl, hc1, hc2⟩ := hc.some1 hnpos)
      have hbb := hb.below hb1
      go_upto_region 9 with (refine wpList_clone rfl _ _ _ rfl elB rfl rfl hbb (by unfold maxLen; omega) (by omega) ?_; intro a_d cd w2 hd hb2 hs2; obtain ⟨gd, rfl, hd1, hd2⟩ := hd.some1 hnpos)
      have hcc := hc.below hb2
      have hbl := hb1.trans (hb2.mono hb1.size)
      have hgg : gc < gd := by omega
      clear hc hb1 hb2
      go_wp2_with fail
      go_loopg [11, 12] 32 (fun k t i wr => ∃ j : Nat, j ≤ rounds F (8 * n) ∧ k = 32 - j ∧ i = .int .i64 (j : Int) ∧ t = .bool (M.some1 pat j) ∧ Own wr 5 1 w.heap.size (some ⟨gc, 0, none⟩) n cc (B8 (flips k1 pat F xs j)) ∧
        Own wr 5 1 w1.heap.size (some ⟨gd, 0, none⟩) n cd (B8 (flips k2 pat F xs j)) ∧ Below w.heap.size w wr)
      case atStart => exact ⟨0, Nat.zero_le _, rfl, rfl, rfl, hcc, hd, hbl⟩
      case round =>
        clear hcc hd hbl
        obtain ⟨j, hj, hk, rfl, rfl, hc, hd, hbl⟩ := hrel
        have HK := Lib.hid hk; clear hk
        have hjr : j ≤ 32 ∧ F + j ≤ 8 * n := by unfold rounds at hj; omega
        by_cases hlt : j < 32 ∧ F + j < 8 * n
        · obtain ⟨hj1, hj2⟩ := hlt
          have hj1' : (j : Int) < 32 := by omega
          have hj2' : (F : Int) + (j : Int) < 8 * (n : Int) := by omega
          have HJ := Lib.hid hj; clear hj
          have HR := Lib.hid hjr; clear hjr
          go_upto_region 13 with fail
          cases hp : pat.getLsbD j with
          | false =>
            have hp' := pat_no hp
            have hpf := Lib.hid hp; clear hp
            go_wp2_with fail
            go_roundg (32 - (j + 1))
            case measure => have := HK.out; have := HR.out; omega
            case rel =>
              have e1 : M.some1 pat (j + 1) = M.some1 pat j := by simp [M.some1, hpf.out]
              have e2 : ∀ k, flips k pat F xs (j + 1) = flips k pat F xs j := fun k => by simp [flips, hpf.out]
              exact ⟨j + 1, by unfold rounds; omega, rfl, by go_num, by rw [e1], by rw [e2]; exact hc, by rw [e2]; exact hd, hbl⟩
          | true =>
            have hp' := pat_yes hp
            have hpf := Lib.hid hp; clear hp
            have hq : (F + j) / 8 < n := by omega
            have hql : (F + j) / 8 < (flips k1 pat F xs j).length := by rw [flips_len, HL.out]; exact hq
            have hql2 : (F + j) / 8 < (flips k2 pat F xs j).length := by rw [flips_len, HL.out]; exact hq
            obtain ⟨hcc, hcf⟩ := hc.read (B8_get _ _ hql)
            obtain ⟨hdc, hdf⟩ := hd.read (B8_get _ _ hql2)
            go_upto_region 14 with fail
            refine region_tail 18 (by kernel_rfl) (by kernel_rfl) ?_
            simp only [List.take_succ_cons, List.take_zero, List.drop_succ_cons, List.drop_zero]
            go_upto_region 15 with (first | (refine still_wp rfl rfl ?_; intro _ _) | (refine wpStill_nil ?_))
            have hc' := (hc.set ((F + j) / 8) (.int .u8 ((at8 (flips k1 pat F xs j) ((F + j) / 8) ^^^ k1 ((F + j) % 8)).toNat : Int)) rfl).drew
            rw [flips_yes k1 pat F xs j hpf.out, ← u8_xor, ← sh1 _ (Nat.mod_lt _ (by decide))] at hc'
            have hd' := (hd.setOther ⟨gc, (F + j) / 8, none⟩ (.int .u8 (bits .xor .u8 ((at8 (flips k1 pat F xs j) ((F + j) / 8)).toNat : Int) (2 ^ ((F + j) % 8) % 256))) (fun g hg => by cases hg; simp; omega)).drew
            have hbl' := (hbl.setCell (p := ⟨gc, (F + j) / 8, none⟩) hc1 (.int .u8 (bits .xor .u8 ((at8 (flips k1 pat F xs j) ((F + j) / 8)).toNat : Int) (2 ^ ((F + j) % 8) % 256)))).drew
            generalize (wr.setCell ⟨gc, (F + j) / 8, none⟩ (.int .u8 (bits .xor .u8 ((at8 (flips k1 pat F xs j) ((F + j) / 8)).toNat : Int) (2 ^ ((F + j) % 8) % 256)))).drew = wr2 at hc' hd' hbl' ⊢
            clear hc hd hbl hcc hcf hdc hdf
            obtain ⟨hdc, hdf⟩ := hd'.read (B8_get _ _ hql2)
            refine region_tail 18 (by kernel_rfl) (by kernel_rfl) ?_
            simp only [List.take_succ_cons, List.take_zero, List.drop_succ_cons, List.drop_zero]
            have hd2' := (hd'.set ((F + j) / 8) (.int .u8 ((at8 (flips k2 pat F xs j) ((F + j) / 8) ^^^ k2 ((F + j) % 8)).toNat : Int)) rfl).drew
            rw [flips_yes k2 pat F xs j hpf.out, ← u8_xor, ← sh2 _ (Nat.mod_lt _ (by decide))] at hd2'
            have HD := Lib.hid hd2'; clear hd2'
            go_wp2_with (first | (refine still_wp rfl rfl ?_; intro _ _) | (refine wpStill_nil ?_))
            go_roundg (32 - (j + 1))
            case measure => have := HK.out; have := HR.out; omega
            case rel =>
              have e1 : M.some1 pat (j + 1) = true := by simp [M.some1, hpf.out]
              exact ⟨j + 1, by unfold rounds; omega, rfl, by go_num, by rw [e1], (hc'.setOther _ _ (fun g hg => by cases hg; simp; omega)).drew, HD.out, (hbl'.setCell (by simp; omega) _).drew⟩
        · have hjj : j = rounds F (8 * n) := by unfold rounds at hj ⊢; omega
          have q1 := burst_low xs F pat (by rw [HL.out]; exact hF)
          have q2 := burst_high xs F pat (by rw [HL.out]; exact hF)
          rw [HL.out, ← hjj] at q1 q2
          have HJ := Lib.hid hjj; clear hjj hj
          have hbr := hb.below hbl
          change (lowS xs = lowS (flips k1 pat F xs j)) ↔ _ at q1
          change (highS xs = highS (flips k2 pat F xs j)) ↔ _ at q2
          generalize flips k1 pat F xs j = C at hc q1
          generalize flips k2 pat F xs j = D at hd q2
          have e1 : (((lowS xs).toNat : Int) == ((lowS C).toNat : Int)) = !M.some1 pat j := by
            cases hT : M.some1 pat j with
            | false => rw [q1.2 hT]; simp
            | true =>
              have : ¬ lowS xs = lowS C := fun h => by rw [q1.1 h] at hT; cases hT
              simp only [Bool.not_true, beq_eq_false_iff_ne, ne_eq]
              intro h; exact this (BitVec.eq_of_toNat_eq (by omega))
          have e2 : (((highS xs).toNat : Int) == ((highS D).toNat : Int)) = !M.some1 pat j := by
            cases hT : M.some1 pat j with
            | false => rw [q2.2 hT]; simp
            | true =>
              have : ¬ highS xs = highS D := fun h => by rw [q2.1 h] at hT; cases hT
              simp only [Bool.not_true, beq_eq_false_iff_ne, ne_eq]
              intro h; exact this (BitVec.eq_of_toNat_eq (by omega))
          have e1 : (((lowS xs).toNat : Int) != ((lowS C).toNat : Int)) = M.some1 pat j := by rw [bne, e1, Bool.not_not]
          have e2 : (((highS xs).toNat : Int) != ((highS D).toNat : Int)) = M.some1 pat j := by rw [bne, e2, Bool.not_not]
          clear q1 q2
          have hdj : (j < 32 ∧ 8 * n ≤ F + j) ∨ (32 ≤ j ∧ 0 ≤ n) := by omega
          rcases hdj with ⟨hj1, hj2⟩ | ⟨hj1, hj2⟩
          all_goals
            clear hlt
            go_wp2_with fail
            refine (low_any _ _ _ _ _ hbr).mono ?_
            rintro e v1 ⟨rfl, k1⟩
            go_wp2_with fail
            refine (low_any _ _ _ _ _ (hc.rd.below k1)).mono ?_
            rintro e v2 ⟨rfl, k2'⟩
            have k2 := k1.trans (k2'.mono k1.size); clear k1 k2'
            go_wp2_with fail
            refine (high_any _ _ _ _ _ (hbr.below k2)).mono ?_
            rintro e v3 ⟨rfl, k3'⟩
            have k3 := k2.trans (k3'.mono k2.size); clear k2 k3'
            go_wp2_with fail
            refine (high_any _ _ _ _ _ (hd.rd.below k3)).mono ?_
            rintro e v4 ⟨rfl, k4'⟩
            have k4 := k3.trans (k4'.mono k3.size); clear k3 k4'
            go_wp2_with fail
            refine (sums_any _).mono ?_
            rintro e v5 ⟨rfl, k5⟩
            go_wp2
            go_ret
            exact ⟨rfl, hbl.trans ((k4.trans (k5.mono k4.size)).mono hbl.size)⟩
end Go.Proofs.Ytglhkkcogdbidaa
