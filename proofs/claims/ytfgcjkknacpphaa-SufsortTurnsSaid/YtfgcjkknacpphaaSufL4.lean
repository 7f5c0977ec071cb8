/- The law SufsortTurns, walked. -/
import Derived.Test.YtfgcjkknacpphaaSufL5
import Derived.Test.YtfgcjkknacpphaaSufM
import Derived.Test.YtfgcjkknacpphaaStr2
namespace Go.Proofs.Ytfgcjkknacpphaa
set_option linter.unusedSimpArgs false
set_option linter.unusedVariables false
open Go.RowKit

theorem rot_two (w0 : World) (ad : Option Addr) (n cap : Nat) (b : List UInt8) (hb : Rd w0 1 ad n cap (B8 b)) (ad2 : Option Addr) (cap2 : Nat) (b2 : List UInt8) (hb2 : Rd w0 1 ad2 n cap2 (B8 b2)) :
    ∀ W, Below w0.heap.size w0 W → ∀ (s : Value) (tx : List UInt8), ((s = .slice ad n cap ∧ tx = b) ∨ (s = .slice ad2 n cap2 ∧ tx = b2)) → ∀ i, i ≤ n →
      Calls Try.prog 17 #[s, .int .i64 (i : Int)] W fun e W' => e = .returned (.string (bstr (txt tx true i))) ∧ Below W.heap.size W W' := by
  rintro W hW s tx (⟨rfl, rfl⟩ | ⟨rfl, rfl⟩) i hi
  · exact rotation_law W _ _ _ _ i (hb.below hW) hi
  · exact rotation_law W _ _ _ _ i (hb2.below hW) hi
set_option maxRecDepth 100000 in
set_option maxHeartbeats 4000000 in
theorem sufsortTurns_law (w : World) (ad : Option Addr) (n cap : Nat) (b : List UInt8) (hb : Rd w 1 ad n cap (B8 b)) (x : UInt8) (z : Nat) (hz : z < 65536) :
    Calls Try.prog 6 #[.slice ad n cap, .int .u8 (x.toNat : Int), .int .u16 (z : Int)] w fun e w' => e = .returned (.bool true) ∧ Below w.heap.size w w' := by
  by_cases hn : 100 < n
  · go_enter Try.func6, Try.ntmps6
    go_wp2_with fail
    refine (sorts_any _).mono ?_
    rintro e w8 ⟨rfl, b8⟩
    go_wp2_with fail
    go_ret
    exact ⟨rfl, b8⟩
  by_cases hn0 : n = 0
  · subst hn0
    go_enter Try.func6, Try.ntmps6
    go_wp2_with fail
    refine (sorts_any _).mono ?_
    rintro e w8 ⟨rfl, b8⟩
    go_wp2_with fail
    go_ret
    exact ⟨rfl, b8⟩
  have hnz : ((n : Int) == 0) = false := by rw [beq_eq_false_iff_ne]; omega
  have hl := hb.len8
  have HL := Lib.hid hl; clear hl
  have hxl := UInt8.toNat_lt x
  generalize x.toNat = xv at *
  obtain ⟨t, ht⟩ : ∃ t, xv % 6 = t := ⟨_, rfl⟩
  have htm : (xv : Int).tmod 6 = (t : Int) := by rw [← ht]; rfl
  have ht6 : t < 6 := by omega
  have hcx : IntKind.i64.wrap (xv : Int) = (xv : Int) := IntWalk.i64_in _ (by omega)
  have hcz : IntKind.i64.wrap (z : Int) = (z : Int) := IntWalk.i64_in _ (by omega)
  have hk1 : (1 : Int) + (t : Int) = ((1 + t : Nat) : Int) := by omega
  clear ht
  obtain ⟨k, hk⟩ : ∃ k, 1 + t = k := ⟨_, rfl⟩
  rw [hk] at hk1
  have HK := Lib.hid hk; clear hk
  have hk0 : 0 < k := by have := HK.out; omega
  have hk6 : k ≤ 6 := by have := HK.out; omega
  obtain ⟨B, hB⟩ : ∃ B, w.heap.size = B := ⟨_, rfl⟩
  have HB := Lib.hid hB; clear hB
  go_enter Try.func6, Try.ntmps6
  go_wp2_with fail
  clear htm hcx hk1
  go_loopg [8, 9] k (fun kk y i wr => ∃ (j m : Nat) (a : Option Addr) (c : Nat), j ≤ k ∧ kk = k - j ∧ y = .slice a m c ∧ i = .int .i64 (j : Int) ∧ Hid (m = j * n) ∧ Below B w wr ∧ Own wr 5 1 B a m c (B8 (repB b j)))
  case atStart => exact ⟨0, 0, none, 0, Nat.zero_le _, by simp, rfl, by simp, Lib.hid (by simp), Below.refl _ _, Own.nil _ _ _ _⟩
  case round =>
    obtain ⟨j, m, a, c, hj, rfl, rfl, rfl, hm, hbr, oa⟩ := hrel
    rename World => wr
    have hbw : Below w.heap.size w wr := by rw [HB.out]; exact hbr
    have hBr : B ≤ wr.heap.size := by have := hbr.size; rw [HB.out] at this; exact this
    by_cases hlt : j < k
    · have rb := hb.below hbw
      have hms : m ≤ 500 := by
        rw [hm.out]; exact Nat.le_trans (Nat.mul_le_mul (show j ≤ 5 by omega) (show n ≤ 100 by omega)) (by decide)
      go_wp2_with (refine wpList_app rfl _ _ _ rfl elB rfl rfl oa rb (by unfold maxLen; omega) (by omega) hBr ?_; intro a5 c5 w5 o5 g5 n5)
      have b5 := Own.grown hbr oa g5 hBr (Nat.le_refl _)
      rw [B8_app] at o5
      go_roundg (k - (j + 1))
      case measure => omega
      case rel => exact ⟨j + 1, m + n, a5, c5, by omega, rfl, rfl, by simp, Lib.hid (by rw [hm.out, Nat.succ_mul]), b5, o5⟩
    · obtain rfl : k = j := by omega
      have hmb : m = (repB b k).length := by rw [repB_len, HL.out, hm.out]
      have hM : m ≤ 600 := by rw [hm.out]; exact Nat.le_trans (Nat.mul_le_mul hk6 (show n ≤ 100 by omega)) (by decide)
      have hM0 : 0 < m := by rw [hm.out]; exact Nat.mul_pos hk0 (by omega)
      have HMB := Lib.hid hmb; clear hmb
      have rc := oa.rd
      go_wp2_with fail
      refine (rotations_law _ _ _ _ _ rc (by omega)).mono ?_
      rintro e w2 ⟨g2, o2, rfl, own2, ord2, b2⟩
      have c2 := hbw.trans (b2.mono hbw.size)
      have rc2 := rc.below b2
      have HO := Lib.hid ord2; clear ord2
      have own2' := own2.lower hbw.size
      clear b2 oa rc own2
      have hgr := fun i (hi : i < m) => groups hk0 HO.out i (by rw [← repB_len, ← HMB.out]; exact hi)
      have HG := Lib.hid hgr; clear hgr
      go_wp2_with fail
      go_loopg [11] m (fun kk i wr => ∃ j : Nat, j ≤ m ∧ kk = m - j ∧ i = .int .i64 (j : Int) ∧ Below w2.heap.size w2 wr)
      case atStart => exact ⟨0, Nat.zero_le _, by simp, rfl, Below.refl _ _⟩
      case round =>
        obtain ⟨j, hj, rfl, rfl, hbi⟩ := hrel
        rename World => wi
        have oo := own2'.below hbi
        have c3 := c2.trans (hbi.mono c2.size)
        have rc3 := rc2.below hbi
        by_cases hlt : j < m
        · have HR := Lib.hid (rot_two _ _ _ _ _ rc3 _ _ _ rc3)
          obtain ⟨q, hq⟩ : ∃ q, j - j % k = q := ⟨_, rfl⟩
          obtain ⟨r, hr⟩ : ∃ r, j % k = r := ⟨_, rfl⟩
          have hjk : (j : Int).tmod (k : Int) = (r : Int) := by rw [← hr]; rfl
          have hk00 : ¬ (k : Int) = 0 := by omega
          have hk01 : ¬ k = 0 := by omega
          have hr6 : r < 6 := by rw [← hr]; exact Nat.lt_of_lt_of_le (Nat.mod_lt _ hk0) hk6
          have hw2 : IntKind.i64.wrap (r : Int) = (r : Int) := IntWalk.i64_in _ (by omega)
          have hjk2 : (j : Int) % (k : Int) = (r : Int) := by rw [← hr]; rfl
          have hrj : r ≤ j := by rw [← hr]; exact Nat.mod_le _ _
          have hjq : (j : Int) - (r : Int) = (q : Int) := by omega
          have hqm : q < m := by omega
          have hw1 : IntKind.i64.wrap (q : Int) = (q : Int) := IntWalk.i64_in _ (by omega)
          have hqm2 : (q : Int) < (m : Int) := by omega
          have hgr := HG.out j hlt
          rw [hq] at hgr
          clear hr hq
          have l1 := HO.out.ord.lt (p := q) (by rw [← HMB.out]; exact hqm)
          have l2 := HO.out.ord.lt (p := j) (by rw [← HMB.out]; exact hlt)
          rw [← HMB.out] at l1 l2
          obtain ⟨cv, _⟩ := oo.getN hqm
          obtain ⟨cu, _⟩ := oo.getN hlt
          generalize atN o2 q = v at *
          generalize atN o2 j = u at *
          have hdr : Below wi.heap.size wi wi.drew := (Below.refl _ _).drew
          have hbeq : (txt (repB b k) true u == txt (repB b k) true v) = true := by rw [hgr]; simp
          have hbeq2 : (txt (repB b k) true v == txt (repB b k) true u) = true := by rw [hgr]; simp
          clear hgr oo rc3 c3 rc2
          have HBI := Lib.hid hbi; clear hbi
          go_wp2_with fail
          go_region_held3 (fun w' => w'.cell? ⟨g2, j, none⟩ = some (.int .i64 (u : Int)) ∧ w'.cell? ⟨g2, q, none⟩ = some (.int .i64 (v : Int))) (first | (exact ⟨cell_below cu b10, cell_below cv b10⟩) | (exact ⟨cell_below cu b9, cell_below cv b9⟩) | (exact ⟨cell_below cu hdr, cell_below cv hdr⟩) | go_keep)
            (first
              | (go_at_call 17; refine (HR.out _ b9 _ _ (by first | exact .inl ⟨rfl, rfl⟩ | exact .inr ⟨rfl, rfl⟩) _ (by omega)).mono ?_; rintro e w10 ⟨rfl, b10'⟩; have b10 := b9.trans (b10'.mono b9.size))
              | (go_at_call 17; refine (HR.out _ hdr _ _ (by first | exact .inl ⟨rfl, rfl⟩ | exact .inr ⟨rfl, rfl⟩) _ (by omega)).mono ?_; rintro e w9 ⟨rfl, b9'⟩; have b9 := hdr.trans (b9'.mono hdr.size)))
          all_goals
            go_wp2_with fail
            go_roundg (m - (j + 1))
            case measure => omega
            case rel => exact ⟨j + 1, by omega, rfl, by simp, HBI.out.trans (b10.mono HBI.out.size)⟩
        · obtain rfl : m = j := by omega
          obtain ⟨y, hy⟩ : ∃ y, z % m = y := ⟨_, rfl⟩
          have hym : y < m := by rw [← hy]; exact Nat.mod_lt _ hM0
          have hz1 : (z : Int).tmod (m : Int) = (y : Int) := by rw [← hy]; rfl
          have hz2 : (z : Int) % (m : Int) = (y : Int) := by rw [← hy]; rfl
          have hm00 : ¬ m = 0 := by omega
          have hw3 : IntKind.i64.wrap (y : Int) = (y : Int) := IntWalk.i64_in _ (by omega)
          clear hy own2' hbi rc2
          go_wp2_with fail
          clear hz1 hz2 hw3 hcz
          refine (rotation_law _ _ _ _ _ y rc3 (Nat.le_of_lt hym)).mono ?_
          rintro e w4 ⟨rfl, b4⟩
          have c4 := c3.trans (b4.mono c3.size)
          have rc4 := rc3.below b4
          have oo4 := oo.below b4
          have hdl : (txt (repB b k) true y).length = m := by rw [txt_lenR _ _ (by rw [← HMB.out]; exact Nat.le_of_lt hym), ← HMB.out]
          obtain ⟨cd, w5, hcv, rd5, b5⟩ := run_fresh8 (P := Try.prog) Try.underlying9 Try.underlying22 Try.underlying5 w4 (txt (repB b k) true y) (by rw [hdl]; unfold maxLen; omega)
          rw [hdl] at hcv rd5
          have HDL := Lib.hid hdl; clear hdl
          have c5 := c4.trans (b5.mono c4.size)
          have rc5 := rc4.below b5
          have oo5 := oo4.below b5
          clear c3 rc3 oo b4 c4 rc4 oo4 b5
          generalize hDA : w4.heap.size = DA at *
          have HDA := Lib.hid hDA; clear hDA
          go_wp2_with fail
          refine (rotations_law _ _ _ _ _ rd5 (by omega)).mono ?_
          rintro e w6 ⟨g6, o6, rfl, own6, ord6, b6⟩
          have c6 := c5.trans (b6.mono c5.size)
          have rc6 := rc5.below b6
          have rd6 := rd5.below b6
          have oo6 := oo5.below b6
          have htx := fun i (hi : i < m) => turned_texts (c := repB b k) (k := y) (by rw [← HMB.out]; exact hym) HO.out ord6 i (by rw [← HMB.out]; exact hi)
          have HT := Lib.hid htx; clear htx
          have H6 := Lib.hid ord6; clear ord6
          clear hcv c5 rc5 rd5 oo5 b6
          go_wp2_with fail
          go_loopg [15] m (fun kk i wr => ∃ j : Nat, j ≤ m ∧ kk = m - j ∧ i = .int .i64 (j : Int) ∧ Below w6.heap.size w6 wr)
          case atStart => exact ⟨0, Nat.zero_le _, by simp, rfl, Below.refl _ _⟩
          case round =>
            obtain ⟨j, hj, rfl, rfl, hbi⟩ := hrel
            rename World => wi
            have oo := oo6.below hbi
            have od := own6.below hbi
            have c7 := c6.trans (hbi.mono c6.size)
            have rc7 := rc6.below hbi
            have rd7 := rd6.below hbi
            by_cases hlt : j < m
            · have HR := Lib.hid (rot_two _ _ _ _ _ rc7 _ _ _ rd7)
              have htx := HT.out j hlt
              have l1 := HO.out.ord.lt (p := j) (by rw [← HMB.out]; exact hlt)
              have l2 := H6.out.ord.lt (p := j) (by rw [HDL.out]; exact hlt)
              rw [← HMB.out] at l1
              rw [HDL.out] at l2
              obtain ⟨cu, _⟩ := oo.getN hlt
              obtain ⟨cv, _⟩ := od.getN hlt
              generalize atN o2 j = u at *
              generalize atN o6 j = v at *
              have hdr : Below wi.heap.size wi wi.drew := (Below.refl _ _).drew
              have hbeq : (txt (repB b k) true u == txt (txt (repB b k) true y) true v) = true := by rw [htx]; simp
              clear htx oo od rc7 rd7 c7 rc6 rd6
              have HBI := Lib.hid hbi; clear hbi
              go_wp2_with fail
              go_region_held3 (fun w' => w'.cell? ⟨g2, j, none⟩ = some (.int .i64 (u : Int)) ∧ w'.cell? ⟨g6, j, none⟩ = some (.int .i64 (v : Int))) (first | (exact ⟨cell_below cu b10, cell_below cv b10⟩) | (exact ⟨cell_below cu b9, cell_below cv b9⟩) | (exact ⟨cell_below cu hdr, cell_below cv hdr⟩) | go_keep)
                (first
                  | (go_at_call 17; refine (HR.out _ b9 _ _ (by first | exact .inl ⟨rfl, rfl⟩ | exact .inr ⟨rfl, rfl⟩) _ (by omega)).mono ?_; rintro e w10 ⟨rfl, b10'⟩; have b10 := b9.trans (b10'.mono b9.size))
                  | (go_at_call 17; refine (HR.out _ hdr _ _ (by first | exact .inl ⟨rfl, rfl⟩ | exact .inr ⟨rfl, rfl⟩) _ (by omega)).mono ?_; rintro e w9 ⟨rfl, b9'⟩; have b9 := hdr.trans (b9'.mono hdr.size)))
              all_goals
                go_wp2_with fail
                go_roundg (m - (j + 1))
                case measure => omega
                case rel => exact ⟨j + 1, by omega, rfl, by simp, HBI.out.trans (b10.mono HBI.out.size)⟩
            · obtain rfl : m = j := by omega
              clear oo od rc7 rd7 rc6 rd6 own6 oo6 hbi c6
              go_wp2_with fail
              refine (sorts_any _).mono ?_
              rintro e w8 ⟨rfl, b8⟩
              have c8 := c7.trans (b8.mono c7.size)
              clear c7 b8
              go_wp2_with fail
              go_ret
              exact ⟨rfl, c8⟩
end Go.Proofs.Ytfgcjkknacpphaa
