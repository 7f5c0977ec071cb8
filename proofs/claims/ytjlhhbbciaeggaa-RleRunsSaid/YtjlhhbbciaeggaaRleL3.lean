/- The law RleRuns, walked. -/
import Derived.Test.YtjlhhbbciaeggaaRleJ
namespace Go.Proofs.Ytjlhhbbciaeggaa
set_option linter.unusedSimpArgs false
set_option linter.unusedVariables false
open Go.RowKit

theorem fill_step (c : UInt8) (m j : Nat) (h : j < m) : (B8 (List.replicate j c ++ List.replicate (m - j) 0)).set j (.int .u8 (c.toNat : Int)) = B8 (List.replicate (j + 1) c ++ List.replicate (m - (j + 1)) 0) := by
  have e : m - j = (m - (j + 1)) + 1 := by omega
  rw [e, List.replicate_succ' (n := j), ← B8_app, ← B8_app, List.set_append_right _ _ (by rw [B8_len, List.length_replicate]; exact Nat.le_refl _), B8_len, List.length_replicate, Nat.sub_self, List.replicate_succ, ← B8_app, List.append_assoc]
  rfl
theorem fill_get (c : UInt8) (m j : Nat) (h : j < m) : (B8 (List.replicate j c ++ List.replicate (m - j) 0))[j]? = some (.int .u8 0) := by
  have e : m - j = (m - (j + 1)) + 1 := by omega
  rw [e, ← B8_app, List.getElem?_append_right (by rw [B8_len, List.length_replicate]; exact Nat.le_refl _), B8_len, List.length_replicate, Nat.sub_self, List.replicate_succ]
  rfl
theorem fill_zero (c : UInt8) (m : Nat) : B8 (List.replicate 0 c ++ List.replicate (m - 0) 0) = List.replicate m (.int .u8 0) := by
  simp [B8]
theorem wantR_le (m : Nat) (h : m ≤ 5000) : wantR m ≤ 100 := by
  unfold wantR
  split <;> omega

set_option maxRecDepth 100000 in
set_option maxHeartbeats 4000000 in
theorem rleRuns_law (w : World) (c : UInt8) (z : Nat) (hz : z < 65536) :
    Calls Try.prog 6 #[.int .u8 (c.toNat : Int), .int .u16 (z : Int)] w fun e w' => e = .returned (.bool true) ∧ Below w.heap.size w w' := by
  obtain ⟨m, hm⟩ : ∃ m, z % 5001 = m := ⟨_, rfl⟩
  have hm5 : m ≤ 5000 := by omega
  have hmi : ((z : Int)) % 5001 = (m : Int) := by omega
  have hmt : (z : Int).tmod 5001 = (m : Int) := by rw [Int.tmod_eq_emod_of_nonneg (by omega), hmi]
  obtain ⟨B, hB⟩ : ∃ B, w.heap.size = B := ⟨_, rfl⟩
  have H1 : Hid (m ≤ maxLen) := Lib.hid (by unfold maxLen; omega)
  have H2 : Hid (1 * m ≤ 281474976710656) := Lib.hid (by omega)
  go_enter Try.func6, Try.ntmps6
  go_upto_region 2 with fail
  go_upto_region 3 with (refine wpList_mk rfl _ _ _ rfl elB rfl rfl m rfl rfl rfl rfl H1.out H2.out ?_; intro w1 o1 b1 s1; have S1 := Lib.hid s1; clear s1)
  rw [hB] at o1 b1 S1
  have hw1 : B < w1.heap.size := by rw [S1.out]; omega
  clear S1 H1 H2
  go_wp2_with fail
  go_loopg [7] m (fun gk i wr => ∃ j : Nat, j ≤ m ∧ gk = m - j ∧ i = .int .i64 (j : Int) ∧ Below B w wr ∧ B < wr.heap.size ∧ Own wr 5 1 B (some ⟨B, 0, none⟩) m m (B8 (List.replicate j c ++ List.replicate (m - j) 0)))
  case atStart => exact ⟨0, Nat.zero_le _, by simp, rfl, b1, hw1, by rw [fill_zero]; exact o1⟩
  case round =>
    clear o1 b1 hw1
    obtain ⟨j, hj, rfl, rfl, br, hBr, oa⟩ := hrel
    rename World => wr
    by_cases hlt : j < m
    · obtain ⟨ca, fa⟩ := oa.readZ (fill_get c m j hlt)
      have os := oa.set j (.int .u8 (c.toNat : Int)) rfl
      rw [fill_step c m j hlt] at os
      have bs := br.setCell (p := ⟨B, j, none⟩) (by simp) (.int .u8 (c.toNat : Int))
      clear oa br
      go_wp2_with fail
      go_roundg (m - (j + 1))
      case measure => omega
      case rel => exact ⟨j + 1, by omega, rfl, by simp, bs, by simpa using hBr, os⟩
    · obtain rfl : j = m := by omega
      rw [Nat.sub_self, List.replicate_zero, List.append_nil] at oa
      have hrep : (pkO (List.replicate j c) (pcs (List.replicate j c)).length).length = wantR j := pkO_rep c j
      have hoff : offP (List.replicate j c) (pcs (List.replicate j c)).length = j := by rw [offP_all, List.length_replicate]
      have hsay := say_pkO (List.replicate j c) (pcs (List.replicate j c)).length
      rw [hoff, List.take_of_length_le (by rw [List.length_replicate]; exact Nat.le_refl _)] at hsay
      have hwl := wantR_le j hm5
      have hst : Stop (List.replicate j c) 5000 (pcs (List.replicate j c)).length := Stop.all (by rw [hrep]; omega)
      generalize (pcs (List.replicate j c)).length = K at *
      have rb := oa.rd
      have HREP := Lib.hid hrep; clear hrep
      have HOFF := Lib.hid hoff; clear hoff
      have HSAY := Lib.hid hsay; clear hsay
      have HST := Lib.hid hst; clear hst
      obtain ⟨Wt, hWt⟩ : ∃ Wt, wantR j = Wt := ⟨_, rfl⟩
      rw [hWt] at hwl
      obtain ⟨q, hq⟩ : ∃ q, j / 255 = q := ⟨_, rfl⟩
      obtain ⟨l, hl⟩ : ∃ l, j % 255 = l := ⟨_, rfl⟩
      have hqi : (j : Int).tdiv 255 = (q : Int) := by rw [← hq]; rfl
      have hli : (j : Int).tmod 255 = (l : Int) := by rw [← hl]; rfl
      have hq20 : q ≤ 20 := by omega
      have hl255 : l < 255 := by omega
      have hwant : Wt = q * 5 + if 4 ≤ l then 5 else l := by rw [← hWt, wantR, hq, hl]
      clear oa
      go_wp2_with fail
      refine (pack_one wr _ _ _ _ rb (by omega) 5000 (by decide) (by decide) K HST.out _ rfl Wt (by rw [HREP.out, hWt]) j HOFF.out).mono ?_
      rintro e w2 ⟨a2, k2, rfl, o2, b2⟩
      have c2 : Below w.heap.size w w2 := by rw [hB]; exact br.trans (b2.mono (by omega : B ≤ wr.heap.size))
      have r2 := o2.rd
      have rb2 := rb.below b2
      clear hWt o2 b2 br hq hl hmi hmt hm
      by_cases hl4 : l < 4
      · have hW : (q : Int) * 5 + (l : Int) = (Wt : Int) := by rw [hwant, if_neg (by omega)]; omega
        have hle : (l : Int) ≤ 5 := by omega
        have hl4' : ((l : Int) == 4) = false := beq_eq_false_iff_ne.2 (by omega)
        clear hwant
        go_upto_region 12 with fail
        clear hqi hli hl4' hle
        go_wp2_with fail
        refine (unpack_ok w2 _ _ _ _ r2 (by omega) j (by omega) (List.replicate j c) (by rw [HSAY.out, List.take_of_length_le (by rw [List.length_replicate]; exact Nat.le_refl _)]) j (by rw [List.length_replicate]) j (by rw [HSAY.out, List.length_replicate])).mono ?_
        rintro e w3 ⟨a3, k3, rfl, o3, b3⟩
        have c3 := c2.trans (b3.mono c2.size)
        have s1 := fun o => rstr (o3.rd.alloc o)
        have s2 := fun o => rstr ((rb2.below b3).alloc o)
        have c3' := fun o => c3.alloc c3.size o
        have C3 := Lib.hid c3'
        clear o3 b3 r2 rb2 c2 c3 c3'
        go_wp2_with fail
        refine (packs_any _).mono ?_
        rintro e w9 ⟨rfl, b9⟩
        go_wp2_with fail
        go_ret
        exact ⟨rfl, (C3.out _).trans (b9.mono (C3.out _).size)⟩
      · have hW5 : Wt = q * 5 + 5 := by rw [hwant, if_pos (by omega)]
        by_cases hl5 : l = 4
        · have hW : (q : Int) * 5 + 5 = (Wt : Int) := by omega
          have hl4' : ((l : Int) == 4) = true := by rw [hl5]; rfl
          have hle : (l : Int) ≤ 5 := by omega
          clear hl5 hW5
          clear hwant
          go_upto_region 12 with fail
          clear hqi hli hl4' hle
          go_wp2_with fail
          refine (unpack_ok w2 _ _ _ _ r2 (by omega) j (by omega) (List.replicate j c) (by rw [HSAY.out, List.take_of_length_le (by rw [List.length_replicate]; exact Nat.le_refl _)]) j (by rw [List.length_replicate]) j (by rw [HSAY.out, List.length_replicate])).mono ?_
          rintro e w3 ⟨a3, k3, rfl, o3, b3⟩
          have c3 := c2.trans (b3.mono c2.size)
          have s1 := fun o => rstr (o3.rd.alloc o)
          have s2 := fun o => rstr ((rb2.below b3).alloc o)
          have c3' := fun o => c3.alloc c3.size o
          have C3 := Lib.hid c3'
          clear o3 b3 r2 rb2 c2 c3 c3'
          go_wp2_with fail
          refine (packs_any _).mono ?_
          rintro e w9 ⟨rfl, b9⟩
          go_wp2_with fail
          go_ret
          exact ⟨rfl, (C3.out _).trans (b9.mono (C3.out _).size)⟩
        · have hl4' : ((l : Int) == 4) = false := beq_eq_false_iff_ne.2 (by omega)
          by_cases hl6 : l = 5
          · have hW : (q : Int) * 5 + (l : Int) = (Wt : Int) := by omega
            have hle : (l : Int) ≤ 5 := by omega
            clear hl6 hl5 hW5
            clear hwant
            go_upto_region 12 with fail
            clear hqi hli hl4' hle
            go_wp2_with fail
            refine (unpack_ok w2 _ _ _ _ r2 (by omega) j (by omega) (List.replicate j c) (by rw [HSAY.out, List.take_of_length_le (by rw [List.length_replicate]; exact Nat.le_refl _)]) j (by rw [List.length_replicate]) j (by rw [HSAY.out, List.length_replicate])).mono ?_
            rintro e w3 ⟨a3, k3, rfl, o3, b3⟩
            have c3 := c2.trans (b3.mono c2.size)
            have s1 := fun o => rstr (o3.rd.alloc o)
            have s2 := fun o => rstr ((rb2.below b3).alloc o)
            have c3' := fun o => c3.alloc c3.size o
            have C3 := Lib.hid c3'
            clear o3 b3 r2 rb2 c2 c3 c3'
            go_wp2_with fail
            refine (packs_any _).mono ?_
            rintro e w9 ⟨rfl, b9⟩
            go_wp2_with fail
            go_ret
            exact ⟨rfl, (C3.out _).trans (b9.mono (C3.out _).size)⟩
          · have hW : (q : Int) * 5 + 5 = (Wt : Int) := by omega
            have hle : ¬ (l : Int) ≤ 5 := by omega
            clear hl6 hl5 hW5
            clear hwant
            go_upto_region 12 with fail
            clear hqi hli hl4' hle
            go_wp2_with fail
            refine (unpack_ok w2 _ _ _ _ r2 (by omega) j (by omega) (List.replicate j c) (by rw [HSAY.out, List.take_of_length_le (by rw [List.length_replicate]; exact Nat.le_refl _)]) j (by rw [List.length_replicate]) j (by rw [HSAY.out, List.length_replicate])).mono ?_
            rintro e w3 ⟨a3, k3, rfl, o3, b3⟩
            have c3 := c2.trans (b3.mono c2.size)
            have s1 := fun o => rstr (o3.rd.alloc o)
            have s2 := fun o => rstr ((rb2.below b3).alloc o)
            have c3' := fun o => c3.alloc c3.size o
            have C3 := Lib.hid c3'
            clear o3 b3 r2 rb2 c2 c3 c3'
            go_wp2_with fail
            refine (packs_any _).mono ?_
            rintro e w9 ⟨rfl, b9⟩
            go_wp2_with fail
            go_ret
            exact ⟨rfl, (C3.out _).trans (b9.mono (C3.out _).size)⟩
end Go.Proofs.Ytjlhhbbciaeggaa
