/- The law CrcThree, walked. -/
import Derived.Test.YtglhkkcogdbidaaCrcL4
namespace Go.Proofs.Ytglhkkcogdbidaa
set_option linter.unusedSimpArgs false
set_option linter.unusedVariables false
open Go.RowKit M

def pre (f : Nat → UInt8) (n j : Nat) : List UInt8 := (List.range n).map fun i => if i < j then f i else 0
theorem pre_len (f : Nat → UInt8) (n j : Nat) : (pre f n j).length = n := by simp [pre]
theorem pre_getD (f : Nat → UInt8) (n j i : Nat) (hi : i < n) : (pre f n j).getD i 0 = if i < j then f i else 0 := by simp [pre, hi]
theorem pre_zero (f : Nat → UInt8) (n : Nat) : B8 (pre f n 0) = List.replicate n (.int .u8 0) := by
  apply List.ext_getElem?
  intro i
  by_cases h : i < n <;> simp [B8, pre, h]
theorem pre_step (f : Nat → UInt8) (n j : Nat) : (B8 (pre f n j)).set j (.int .u8 ((f j).toNat : Int)) = B8 (pre f n (j + 1)) := by
  apply List.ext_getElem?
  intro i
  by_cases h : i < n
  · by_cases hij : j = i
    · subst hij; simp [B8, pre, h]
    · simp [B8, pre, h, hij]
      have : (i < j) = (i < j + 1) := by apply propext; omega
      simp [this]
  · simp [B8, pre, h, List.getElem?_set]
theorem pre_same (f : Nat → UInt8) (n j : Nat) (h : f j = 0) : pre f n j = pre f n (j + 1) := by
  unfold pre
  refine List.map_congr_left fun i _ => ?_
  by_cases hij : i = j
  · subst hij; simp [h]
  · have : (i < j) = (i < j + 1) := by apply propext; omega
    simp [this]
theorem pre_at (f : Nat → UInt8) (n j i : Nat) (hi : i < n) : (B8 (pre f n j))[i]? = some (.int .u8 ((if i < j then f i else 0 : UInt8).toNat : Int)) := by simp [B8, pre, hi]
theorem u8_xor (c d : UInt8) : bits .xor .u8 (c.toNat : Int) (d.toNat : Int) = ((c ^^^ d).toNat : Int) := b8_xor c.toBitVec d.toBitVec
theorem at8_out (xs : List UInt8) (j : Nat) (h : xs.length ≤ j) : at8 xs j = 0 := by simp [at8, h]
theorem zcell8 : (Value.int .u8 0).cells = #[Value.int .u8 0] := rfl

set_option maxHeartbeats 1000000 in
theorem crcThree_law (w : World) (a0 a1 a2 : Option Addr) (n n1 n2 c0 c1 c2 : Nat) (xs ys zs : List UInt8) (hb0 : Rd w 1 a0 n c0 (B8 xs)) (hb1 : Rd w 1 a1 n1 c1 (B8 ys)) (hb2 : Rd w 1 a2 n2 c2 (B8 zs)) :
    Calls Try.prog 7 #[.slice a0 n c0, .slice a1 n1 c1, .slice a2 n2 c2] w fun e w' => e = .returned (.bool true) ∧ Below w.heap.size w w' := by
  by_cases hn : 5000 < n
  · go_enter Try.func7, Try.ntmps7
    go_wp2
    go_ret
    exact ⟨rfl, Below.refl _ _⟩
  · have hlen := hb0.len8
    have HL := Lib.hid hlen; clear hlen
    have hlen := hb1.len8
    have HL1 := Lib.hid hlen; clear hlen
    have hlen := hb2.len8
    have HL2 := Lib.hid hlen; clear hlen
    go_enter Try.func7, Try.ntmps7
    go_upto_region 4 with (refine wpList_mk rfl _ _ _ rfl elB zcell8 rfl n rfl rfl rfl rfl (by unfold maxLen; omega) (by omega) ?_; intro w1 ho1 hw1 hs1; have HS1 := Lib.hid hs1; clear hs1)
    go_upto_region 5 with (refine wpList_mk rfl _ _ _ rfl elB zcell8 rfl n rfl rfl rfl rfl (by unfold maxLen; omega) (by omega) ?_; intro w2 ho2 hw2 hs2; have HS2 := Lib.hid hs2; clear hs2)
    go_upto_region 6 with (refine wpList_mk rfl _ _ _ rfl elB zcell8 rfl n rfl rfl rfl rfl (by unfold maxLen; omega) (by omega) ?_; intro w3 ho3 hw3 hs3; have HS3 := Lib.hid hs3; clear hs3)
    go_wp2_with fail
    have hox := (ho1.below hw2).below hw3
    have hoy := ho2.below hw3
    have hbl := hw1.trans ((hw2.mono hw1.size).trans (hw3.mono (Nat.le_trans hw1.size hw2.size)))
    rw [← pre_zero (at8 ys)] at hox
    rw [← pre_zero (at8 zs)] at hoy
    rw [← pre_zero (fun i => at8 xs i ^^^ at8 ys i ^^^ at8 zs i)] at ho3
    generalize hg1 : w.heap.size = g1 at *
    generalize hg2 : w1.heap.size = g2 at *
    generalize hg3 : w2.heap.size = g3 at *
    have H1 := Lib.hid hg1; have H2 := Lib.hid hg2; have H3 := Lib.hid hg3
    have hlt1 : g1 < g2 := by have := HS1.out; omega
    have hlt2 : g2 < g3 := by have := HS2.out; omega
    clear hg1 hg2 hg3 HS1 HS2 HS3 hw1 hw2 hw3 ho1 ho2
    go_loopg [10] n (fun k i wr => ∃ j : Nat, j ≤ n ∧ k = n - j ∧ i = .int .i64 (j : Int) ∧ Own wr 5 1 g1 (some ⟨g1, 0, none⟩) n n (B8 (pre (at8 ys) n j)) ∧ Own wr 5 1 g2 (some ⟨g2, 0, none⟩) n n (B8 (pre (at8 zs) n j)) ∧
      Own wr 5 1 g3 (some ⟨g3, 0, none⟩) n n (B8 (pre (fun i => at8 xs i ^^^ at8 ys i ^^^ at8 zs i) n j)) ∧ Below g1 w wr)
    case atStart => exact ⟨0, by omega, rfl, rfl, hox, hoy, ho3, hbl⟩
    case round =>
      clear hox hoy ho3 hbl
      obtain ⟨j, hj, hk, rfl, hx, hy, hz, hbl⟩ := hrel
      have HK := Lib.hid hk; clear hk
      by_cases hlt : j < n
      · go_upto_if 32 with fail
        go_cut [] (fun wx => Own wx 5 1 g1 (some ⟨g1, 0, none⟩) n n (B8 (pre (at8 ys) n (j + 1))) ∧ Own wx 5 1 g2 (some ⟨g2, 0, none⟩) n n (B8 (pre (at8 zs) n j)) ∧
          Own wx 5 1 g3 (some ⟨g3, 0, none⟩) n n (B8 (pre (fun i => at8 xs i ^^^ at8 ys i ^^^ at8 zs i) n j)) ∧ Below g1 w wx)
        case first =>
          by_cases h1 : j < n1
          · obtain ⟨hne, hc⟩ := (hb1.below (H1.out ▸ hbl)).get8 h1
            obtain ⟨hxc, hxf⟩ := hx.read (pre_at (at8 ys) n j j hlt)
            have hx' := hx.set j (.int .u8 ((at8 ys j).toNat : Int)) rfl
            rw [pre_step] at hx'
            have HX := Lib.hid hx'; clear hx'
            go_wp2_with fail
            go_meet
            exact ⟨HX.out, hy.setOther _ _ (fun g hg => by cases hg; simp; omega), hz.setOther _ _ (fun g hg => by cases hg; simp; omega), hbl.setCell (Nat.le_refl _) _⟩
          · have hx' := hx
            rw [pre_same _ _ _ (at8_out ys j (by rw [HL1.out]; omega))] at hx'
            have HX := Lib.hid hx'; clear hx'
            go_wp2_with fail
            go_meet
            exact ⟨HX.out, hy, hz, hbl⟩
        case rest =>
          clear hx hy hz hbl
          obtain ⟨hx, hy, hz, hbl⟩ := hcut
          go_upto_if 43 with fail
          go_cut [] (fun wx => Own wx 5 1 g1 (some ⟨g1, 0, none⟩) n n (B8 (pre (at8 ys) n (j + 1))) ∧ Own wx 5 1 g2 (some ⟨g2, 0, none⟩) n n (B8 (pre (at8 zs) n (j + 1))) ∧
            Own wx 5 1 g3 (some ⟨g3, 0, none⟩) n n (B8 (pre (fun i => at8 xs i ^^^ at8 ys i ^^^ at8 zs i) n j)) ∧ Below g1 w wx)
          case first =>
            by_cases h1 : j < n2
            · obtain ⟨hne, hc⟩ := (hb2.below (H1.out ▸ hbl)).get8 h1
              obtain ⟨hxc, hxf⟩ := hy.read (pre_at (at8 zs) n j j hlt)
              have hx' := hy.set j (.int .u8 ((at8 zs j).toNat : Int)) rfl
              rw [pre_step] at hx'
              have HX := Lib.hid hx'; clear hx'
              go_wp2_with fail
              go_meet
              exact ⟨hx.setOther _ _ (fun g hg => by cases hg; simp; omega), HX.out, hz.setOther _ _ (fun g hg => by cases hg; simp; omega), hbl.setCell (by simp; omega) _⟩
            · have hx' := hy
              rw [pre_same _ _ _ (at8_out zs j (by rw [HL2.out]; omega))] at hx'
              have HX := Lib.hid hx'; clear hx'
              go_wp2_with fail
              go_meet
              exact ⟨hx, HX.out, hz, hbl⟩
          case rest =>
            clear hx hy hz hbl
            obtain ⟨hx, hy, hz, hbl⟩ := hcut
            obtain ⟨hne, hc⟩ := (hb0.below (H1.out ▸ hbl)).get8 hlt
            obtain ⟨hxc, hxf⟩ := hx.read (pre_at (at8 ys) n (j + 1) j hlt)
            obtain ⟨hyc, hyf⟩ := hy.read (pre_at (at8 zs) n (j + 1) j hlt)
            obtain ⟨hzc, hzf⟩ := hz.read (pre_at (fun i => at8 xs i ^^^ at8 ys i ^^^ at8 zs i) n j j hlt)
            rw [if_pos (Nat.lt_succ_self j)] at hxc hyc
            have hz' := hz.set j (.int .u8 ((at8 xs j ^^^ at8 ys j ^^^ at8 zs j).toNat : Int)) rfl
            rw [pre_step (fun i => at8 xs i ^^^ at8 ys i ^^^ at8 zs i)] at hz'
            rw [← u8_xor, ← u8_xor] at hz'
            have HZ := Lib.hid hz'; clear hz'
            go_upto_region 13 with fail
            go_still_tail 16, (by kernel_rfl)
            change wpList _ _ _ _ _ wc.drew
            go_wp2_with fail
            go_roundg (n - (j + 1))
            case measure => have := HK.out; omega
            case rel =>
              exact ⟨j + 1, by omega, rfl, by go_num, (hx.setOther _ _ (fun g hg => by cases hg; simp; omega)).drew, (hy.setOther _ _ (fun g hg => by cases hg; simp; omega)).drew, HZ.out.drew, (hbl.setCell (by simp; omega) _).drew⟩
      · obtain rfl : j = n := by omega
        have hgd : ∀ i, i < xs.length → (pre (fun i => at8 xs i ^^^ at8 ys i ^^^ at8 zs i) j j).getD i 0 = xs.getD i 0 ^^^ (pre (at8 ys) j j).getD i 0 ^^^ (pre (at8 zs) j j).getD i 0 := fun i hi => by
          rw [HL.out] at hi
          rw [pre_getD _ _ _ _ hi, pre_getD _ _ _ _ hi, pre_getD _ _ _ _ hi, if_pos hi, if_pos hi, if_pos hi]; rfl
        have hlx : (pre (at8 ys) j j).length = xs.length := by rw [pre_len, HL.out]
        have hly : (pre (at8 zs) j j).length = xs.length := by rw [pre_len, HL.out]
        have hlz : (pre (fun i => at8 xs i ^^^ at8 ys i ^^^ at8 zs i) j j).length = xs.length := by rw [pre_len, HL.out]
        have tl := three_low xs _ _ _ hlx hly hlz hgd
        have th := three_high xs _ _ _ hlx hly hlz hgd
        clear hgd hlx hly hlz
        have hb0' := hb0.below (H1.out ▸ hbl)
        generalize pre (at8 ys) j j = X at hx tl th
        generalize pre (at8 zs) j j = Y at hy tl th
        generalize pre (fun i => at8 xs i ^^^ at8 ys i ^^^ at8 zs i) j j = Z at hz tl th
        have e1 : bits .xor .u32 (bits .xor .u32 ((lowS xs).toNat : Int) ((lowS X).toNat : Int)) ((lowS Y).toNat : Int) = ((lowS Z).toNat : Int) := by rw [bv_xor, bv_xor, ← tl]
        have e2 : bits .xor .u32 (bits .xor .u32 ((highS xs).toNat : Int) ((highS X).toNat : Int)) ((highS Y).toNat : Int) = ((highS Z).toNat : Int) := by rw [bv_xor, bv_xor, ← th]
        clear tl th
        go_wp2_with fail
        refine (low_any _ _ _ _ _ hz.rd).mono ?_
        rintro e v1 ⟨rfl, k1⟩
        go_wp2_with fail
        refine (low_any _ _ _ _ _ (hb0'.below k1)).mono ?_
        rintro e v2 ⟨rfl, k2'⟩
        have k2 := k1.trans (k2'.mono k1.size); clear k1 k2'
        go_wp2_with fail
        refine (low_any _ _ _ _ _ (hx.rd.below k2)).mono ?_
        rintro e v3 ⟨rfl, k3'⟩
        have k3 := k2.trans (k3'.mono k2.size); clear k2 k3'
        go_wp2_with fail
        refine (low_any _ _ _ _ _ (hy.rd.below k3)).mono ?_
        rintro e v4 ⟨rfl, k4'⟩
        have k4 := k3.trans (k4'.mono k3.size); clear k3 k4'
        go_wp2_with fail
        refine (high_any _ _ _ _ _ (hz.rd.below k4)).mono ?_
        rintro e v5 ⟨rfl, k5'⟩
        have k5 := k4.trans (k5'.mono k4.size); clear k4 k5'
        go_wp2_with fail
        refine (high_any _ _ _ _ _ (hb0'.below k5)).mono ?_
        rintro e v6 ⟨rfl, k6'⟩
        have k6 := k5.trans (k6'.mono k5.size); clear k5 k6'
        go_wp2_with fail
        refine (high_any _ _ _ _ _ (hx.rd.below k6)).mono ?_
        rintro e v7 ⟨rfl, k7'⟩
        have k7 := k6.trans (k7'.mono k6.size); clear k6 k7'
        go_wp2_with fail
        refine (high_any _ _ _ _ _ (hy.rd.below k7)).mono ?_
        rintro e v8 ⟨rfl, k8'⟩
        have k8 := k7.trans (k8'.mono k7.size); clear k7 k8'
        go_wp2_with fail
        refine (sums_any _).mono ?_
        rintro e v9 ⟨rfl, k9⟩
        go_wp2
        go_ret
        have hbl' : Below w.heap.size w wr := H1.out ▸ hbl
        exact ⟨rfl, hbl'.trans ((k8.trans (k9.mono k8.size)).mono hbl'.size)⟩
end Go.Proofs.Ytglhkkcogdbidaa
