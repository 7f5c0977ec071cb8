/- FrontRuns. -/
import Derived.Test.YtindbmfccgeikaaFroJ
namespace Go.Proofs.Ytindbmfccgeikaa
set_option linter.unusedSimpArgs false
set_option linter.unusedVariables false
open Go.RowKit

theorem toI_N64' (xs : List Nat) : I64 (toI xs) = N64 xs := by simp [toI, I64, N64, Function.comp_def]
theorem B8_zeros (n : Nat) : List.replicate n (Value.int .u8 0) = B8 (List.replicate n 0) := by simp [B8]
theorem B8_set (xs : List UInt8) (q : Nat) (c : UInt8) : (B8 xs).set q (.int .u8 (c.toNat : Int)) = B8 (xs.set q c) := by simp [B8, List.map_set]
theorem putS_rep (c : UInt8) : ∀ (n r : Nat), putS (List.replicate n c) [c] r = digL (r + n)
  | 0, r => by rw [List.replicate_zero, putS]; rfl
  | n + 1, r => by
    have e1 : pos8 [c] c = 0 := by simp [pos8]
    have e2 : mvd [c] 0 = [c] := mvd_zero _ (by simp)
    rw [List.replicate_succ, putS, if_pos e1, e1, e2, putS_rep c n (r + 1)]
    congr 1; omega
theorem usedL_rep (c : UInt8) (n : Nat) (h : 0 < n) : usedL (List.replicate n c) = [c] := by
  have hm : ∀ x, x ∈ usedL (List.replicate n c) ↔ x = c := fun x => by rw [usedL_mem]; simp [List.mem_replicate]; omega
  have hr := usedL_rise (List.replicate n c)
  have hc := (hm c).2 rfl
  generalize usedL (List.replicate n c) = l at *
  cases l with
  | nil => cases hc
  | cons x t =>
    have hx := (hm x).1 (List.mem_cons_self ..)
    subst hx
    cases t with
    | nil => rfl
    | cons y t =>
      have hy := (hm y).1 (List.mem_cons_of_mem _ (List.mem_cons_self ..))
      rw [List.pairwise_cons] at hr
      have := hr.1 y (List.mem_cons_self ..)
      rw [hy] at this; omega
theorem putL_rep_len (c : UInt8) (n : Nat) : (putL (List.replicate n c)).length = (digL n).length + 1 := by
  rcases Nat.eq_zero_or_pos n with h | h
  · subst h
    unfold putL; rw [List.replicate_zero, usedL_nil, putS, digL_zero]; rfl
  · unfold putL; rw [usedL_rep c n h, putS_rep, Nat.zero_add, List.length_append]; rfl
theorem fill_step (n j : Nat) (c : UInt8) (h : j < n) : (List.replicate j c ++ List.replicate (n - j) 0).set j c = List.replicate (j + 1) c ++ List.replicate (n - (j + 1)) (0 : UInt8) := by
  rw [show n - j = (n - (j + 1)) + 1 by omega, List.replicate_succ, List.set_append_right _ _ (by simp)]
  simp [List.replicate_succ']

set_option maxRecDepth 100000 in
set_option maxHeartbeats 8000000 in
theorem frontRuns_law (w : World) (c : UInt8) (z : BitVec 32) :
    Calls Try.prog 7 #[.int .u8 (c.toNat : Int), .int .u32 (z.toNat : Int)] w fun e w' => e = .returned (.bool true) ∧ Below w.heap.size w w' := by
  have hzl := z.isLt
  obtain ⟨N, hN⟩ : ∃ N, z.toNat % 100001 = N := ⟨_, rfl⟩
  have hNi : ((z.toNat : Nat) : Int) % 100001 = (N : Int) := by omega
  have hN5 : N ≤ 100000 := by omega
  have HN := Lib.hid hN; clear hN
  generalize z.toNat = Zn at *
  have wN : IntKind.u32.wrap (N : Int) = (N : Int) := by rw [IntKind.wrap_u32]; omega
  go_enter Try.func7, Try.ntmps7
  go_upto_region 2 with fail
  go_upto_region 4 with (refine wpList_mk rfl _ _ _ rfl elB rfl rfl N rfl rfl rfl rfl (by unfold maxLen; omega) (by omega) ?_; intro w1 o1 b1 s1; have S1 := Lib.hid s1; clear s1)
  obtain ⟨B, hB⟩ : ∃ B, w.heap.size = B := ⟨_, rfl⟩
  have hw1 : B < w1.heap.size := by rw [S1.out]; omega
  rw [hB] at o1 b1 ⊢
  clear S1
  have HBB := Lib.hid hB; clear hB
  rw [B8_zeros N] at o1
  go_loopg [7] N (fun gk i wr => ∃ j : Nat, j ≤ N ∧ gk = N - j ∧ i = .int .i64 (j : Int) ∧ Below B w wr ∧ B < wr.heap.size ∧ Own wr 5 1 B (some ⟨B, 0, none⟩) N N (B8 (List.replicate j c ++ List.replicate (N - j) 0)))
  case atStart => exact ⟨0, Nat.zero_le _, by simp, rfl, b1, hw1, by simpa using o1⟩
  case round =>
    clear o1 b1 hw1
    obtain ⟨j, hj, rfl, rfl, br, hBr, oa⟩ := hrel
    rename World => wr
    by_cases hlt : j < N
    · obtain ⟨ca, fa⟩ := Own.read oa (j := j) (B8_get _ j (by simp; omega))
      have os := oa.set j (.int .u8 (c.toNat : Int)) rfl
      rw [B8_set, fill_step N j c hlt] at os
      have bs := br.setCell (p := ⟨B, j, none⟩) (by simp) (.int .u8 (c.toNat : Int))
      clear oa br
      go_wp2_with fail
      go_roundg (N - (j + 1))
      case measure => omega
      case rel => exact ⟨j + 1, by omega, rfl, by simp, bs, by simpa using hBr, os⟩
    · obtain rfl : j = N := by omega
      rw [Nat.sub_self, List.replicate_zero, List.append_nil] at oa
      have hrd := oa.rd
      have hput := put_law wr (some ⟨B, 0, none⟩) j j (List.replicate j c) hrd (by omega)
      have hpl := putL_rep_len c j
      have hml := usedL_len (List.replicate j c)
      have hdl := digL_len j
      have hbk := fun h most hm => back_ok (List.replicate j c) h most hm
      rw [List.length_replicate] at hbk
      generalize usedL (List.replicate j c) = U at *
      generalize putL (List.replicate j c) = P at *
      obtain ⟨m, hm⟩ : ∃ m, U.length = m := ⟨_, rfl⟩
      obtain ⟨q, hq⟩ : ∃ q, (digL j).length = q := ⟨_, rfl⟩
      rw [hq] at hpl hdl
      simp only [hm, hpl] at hput hml
      have HBK := Lib.hid hbk; clear hbk
      have HQ := Lib.hid hq; clear hq
      have HPL := Lib.hid hpl; clear hpl
      have HM := Lib.hid hm; clear hm
      go_wp2_with fail
      refine hput.mono ?_
      rintro e w2 ⟨a, c1, a2, c2, rfl, p1, p2, b2⟩
      have tu := p1.rd
      have ts := p2.rd
      have rb := hrd.below b2
      have b12 := br.trans (b2.mono (by omega))
      clear oa hrd p1 p2 hput br b2 hBr
      go_wp2_with fail
      go_loopg [10, 11] (j + 1) (fun gk v10 v11 wr => ∃ (t k : Nat), 1 ≤ k ∧ k ≤ j + 1 ∧ k = gk ∧ v10 = .int .i64 (t : Int) ∧ v11 = .int .i64 (k : Int) ∧ Hid (t + (digL (k - 1)).length = q) ∧ t + k ≤ j + 1 ∧ wr = w2)
      case atStart => exact ⟨0, j + 1, by omega, Nat.le_refl _, rfl, rfl, by simp, Lib.hid (by rw [Nat.add_sub_cancel, HQ.out, Nat.zero_add]), by omega, rfl⟩
      case round =>
        obtain ⟨t, k, hk1, hk2, rfl, rfl, rfl, htq, htk, rfl⟩ := hrel
        rename World => wr
        by_cases hk : 1 < k
        · have hd := digL_pos (k - 1) (by omega)
          obtain ⟨k2, hk2e⟩ : ∃ k2, k / 2 = k2 := ⟨_, rfl⟩
          have hki : (k : Int) / 2 = (k2 : Int) := by omega
          have hkk : (k - 1 - 1) / 2 = k2 - 1 := by omega
          rw [hkk] at hd
          have hk22 : 1 ≤ k2 ∧ k2 < k := by omega
          have HD := Lib.hid hd; clear hd hkk hk2e
          have hk1i : (1 : Int) < (k : Int) := by omega
          go_wp2_with fail
          go_roundg k2
          case measure => omega
          case rel => exact ⟨t + 1, k2, by omega, by omega, rfl, by simp, rfl, Lib.hid (by rw [← htq.out, HD.out, List.length_cons]; omega), by omega, rfl⟩
        · obtain rfl : k = 1 := by omega
          have htq2 : t = q := by rw [← htq.out, digL_zero]; rfl
          subst htq2
          clear htq
          by_cases hj0 : j = 0
          · subst hj0
            clear tu ts rb
            go_wp2_with fail
            refine (says_any _).mono ?_
            rintro e w9 ⟨rfl, b9⟩
            go_wp2_with fail
            go_ret
            exact ⟨rfl, by rw [HBB.out]; exact b12.trans (b9.mono (by have := b12.size; have := HBB.out; omega))⟩
          · have hnz : ((j : Int) == 0) = false := beq_eq_false_iff_ne.2 (by omega)
            have hg1 := fun W (h1 : Rd W 1 a m c1 (B8 U)) (h2 : Rd W 1 a2 (t + 1) c2 (N64 P)) => get_law W a m c1 U h1 a2 (t + 1) c2 (toI P) (by rw [toI_N64']; exact h2) (j : Int) (by omega) (by omega) (by omega)
            have hg2 := fun W (h1 : Rd W 1 a m c1 (B8 U)) (h2 : Rd W 1 a2 (t + 1) c2 (N64 P)) => get_law W a m c1 U h1 a2 (t + 1) c2 (toI P) (by rw [toI_N64']; exact h2) ((j : Int) - 1) (by omega) (by omega) (by omega)
            have hR1 := HBK.out (by omega) j (by omega)
            rw [if_neg (by omega)] at hR1
            have hR2 := HBK.out (by omega) (j - 1) (by omega)
            rw [if_pos (by omega), show ((j - 1 : Nat) : Int) = (j : Int) - 1 by omega] at hR2
            go_wp2_with fail
            refine (hg1 wr tu ts).mono ?_
            rintro e w5 hg
            obtain ⟨a4, c4, rfl, o4, b5⟩ := hg.ok hR1
            rw [List.length_replicate] at o4 ⊢
            clear hg hg1
            go_wp2_with fail
            refine (hg2 w5 (tu.below b5) (ts.below b5)).mono ?_
            rintro e w6 hg
            obtain ⟨rfl, b6⟩ := hg.err hR2
            have b56 := b5.trans (b6.mono b5.size)
            have st2 := rstr (o4.rd.below b6)
            have st3 := rstr (rb.below b56)
            have b9' := b12.trans (b56.mono (by have := b12.size; have := HBB.out; omega))
            clear o4 hg rb tu ts
            go_wp2_with fail
            refine (says_any _).mono ?_
            rintro e w9 ⟨rfl, b9⟩
            go_wp2_with fail
            go_ret
            exact ⟨rfl, by rw [HBB.out]; exact b9'.trans (b9.mono (by have := b9'.size; have := HBB.out; omega))⟩
end Go.Proofs.Ytindbmfccgeikaa
