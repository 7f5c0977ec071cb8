/- the document's Expand. -/
import Derived.Test.YtlmpooibpopcaaaTokH
namespace Go.Proofs.Ytlmpooibpopcaaa
set_option linter.unusedSimpArgs false
set_option linter.unusedVariables false
open Go.RowKit Go.Shelf
attribute [local go_sem] Oper.semAt_some

set_option maxRecDepth 100000 in
set_option maxHeartbeats 4000000 in
theorem refExpand_law (w : World) (ad : Option Addr) (n cap : Nat) (ts : List Tok) (hx : Rd w 3 ad n cap (T3 ts)) (hn : n ≤ 1000) :
    Calls Try.prog 10 #[.slice ad n cap] w (ExpPost ts w) := by
  have hl : ts.length = n := by have := hx.len; rw [T3_len] at this; omega
  have HL := Lib.hid hl; clear hl
  go_enter Try.func10, Try.ntmps10
  go_wp2_with fail
  go_loopg [4] n (fun k i wr => ∃ (j : Nat), j ≤ n ∧ k = n - j ∧ i = .int .i64 j ∧ Below w.heap.size w wr ∧ Hid (∀ t ∈ ts.take j, mayB t = true))
  case atStart => exact ⟨0, Nat.zero_le _, by simp, rfl, Below.refl _ _, Lib.hid (fun t ht => by simp at ht)⟩
  case round =>
    obtain ⟨j, hj, rfl, rfl, hb, hs⟩ := hrel
    rename World => wr
    by_cases hlt : j < n
    · obtain ⟨t, ht, nx, c0, c1, c2⟩ := (hx.below hb).tok hlt
      obtain ⟨l, d, b⟩ := t
      simp only at c0 c1 c2
      have hem := refMay_law wr ⟨l, d, b⟩
      simp only [tokV] at hem
      have hp : mayB ⟨l, d, b⟩ = false → ∀ w', Below w.heap.size w w' → ExpPost ts w (.returned (.tuple #[.slice none 0 0, .int .i64 5])) w' := fun hm w' hb => by
        unfold ExpPost
        rw [show expand ts = ([], 5) by rw [expand, List.any_eq_true.2 ⟨⟨l, d, b⟩, List.mem_of_getElem? ht, by rw [hm]; rfl⟩]; rfl]
        exact ⟨none, 0, rfl, Own.nil _ _ _ _, hb⟩
      have HP := Lib.hid hp; clear hp
      obtain ⟨m, hm⟩ : ∃ m, mayB ⟨l, d, b⟩ = m := ⟨_, rfl⟩
      rw [hm] at hem
      have HM := Lib.hid hm; clear hm
      have HE := Lib.hid hem; clear hem
      have HT := Lib.hid ht; clear ht
      go_wp2_with fail
      refine HE.out.mono ?_
      rintro e w2 ⟨rfl, b2⟩
      have hb2 := hb.trans (b2.mono hb.size)
      cases m with
      | true =>
        go_wp2_with fail
        go_roundg (n - (j + 1))
        case measure => omega
        case rel => exact ⟨j + 1, by omega, rfl, by simp, hb2, Lib.hid (fun u hu => by
          rw [List.take_add_one, HT.out] at hu
          rcases List.mem_append.1 hu with h | h
          · exact hs.out u h
          · simp at h; subst h; exact HM.out)⟩
      | false =>
        go_wp2_with fail
        refine bodyPost_ret (results_tmp2 rfl _ _ _) rfl ?_
        exact HP.out HM.out _ hb2
    · obtain rfl : j = n := by omega
      have hmay : ∀ t ∈ ts, mayB t = true := fun t ht => hs.out t (by rw [List.take_of_length_le (by rw [HL.out]; exact Nat.le_refl _)]; exact ht)
      have hany : ts.any (fun t => !mayB t) = false := by
        rw [List.any_eq_false]
        intro t ht
        rw [hmay t ht]; simp
      have hp : ∀ w' a c o r, expT [] ts = (o, r) → Own w' 5 1 w.heap.size a o.length c (B8 o) → Below w.heap.size w w' → ExpPost ts w (.returned (.tuple #[.slice a o.length c, .int .i64 r])) w' := fun w' a c o r ho hw hb => by
        unfold ExpPost
        rw [show expand ts = (o, r) by rw [expand, hany]; exact ho]
        exact ⟨a, c, rfl, hw, hb⟩
      have HP := Lib.hid hp; clear hp
      have HM := Lib.hid hmay; clear hmay hs
      clear hany
      have b1 := hb; clear hb
      go_wp2_with fail
      go_loopg [5, 6] j (fun k s i wq => ∃ (q : Nat) (o : List UInt8) (m : Nat) (a : Option Addr) (c : Nat), q ≤ j ∧ k = j - q ∧ i = .int .i64 q ∧ s = .slice a m c ∧ m ≤ 258 * q ∧ Hid (o.length = m) ∧ Hid (expT [] ts = expT o (ts.drop q)) ∧ Below w.heap.size w wq ∧ Own wq 5 1 w.heap.size a m c (B8 o))
      case atStart => exact ⟨0, [], 0, none, 0, Nat.zero_le _, by simp, rfl, rfl, Nat.zero_le _, Lib.hid rfl, Lib.hid rfl, b1, Own.nil _ _ _ _⟩
      case round =>
        obtain ⟨q, o, m, a, c, hq, rfl, rfl, rfl, hm, ho, he, hb, hw⟩ := hrel
        rename World => wq
        by_cases hlt : q < j
        · obtain ⟨t, ht, nx, c0, c1, c2⟩ := (hx.below hb).tok hlt
          have hmt := HM.out t (List.mem_of_getElem? ht)
          have hst := he.out
          rw [drop_of ht] at hst
          clear he
          obtain ⟨l, d, b⟩ := t
          have HT := Lib.hid ht; clear ht
          simp only at c0 c1 c2
          by_cases hl0 : l = 0
          · subst hl0
            rw [expT, if_pos rfl] at hst
            have HST := Lib.hid hst; clear hst hmt
            go_wp2_with (refine wpList_push rfl _ _ _ rfl elB rfl rfl hw (ys := [.int .u8 (b.toNat : Int)]) rfl (by simp [Value.oneCell']) (by unfold maxLen; omega) (by omega) hb.size ?_; intro a4 c4 w4 o4 g4 n4)
            have hb4 := Own.grown hb hw g4 hb.size (Nat.le_refl _)
            obtain ⟨t', ht', nx', k0, k1, k2⟩ := (hx.below hb4).tok hlt
            rw [HT.out] at ht'; cases ht'
            simp only at k0 k1 k2
            clear c0 c1 c2 k1 k2
            go_loopg [5, 7] 0 (fun k s i wx => k = 0 ∧ i = .int .i64 0 ∧ s = .slice a4 (m + 1) c4 ∧ w4 = wx)
            case atStart => exact ⟨rfl, rfl, rfl, rfl⟩
            case round =>
              obtain ⟨rfl, rfl, rfl, rfl⟩ := hrel
              go_wp2_with fail
              go_roundg (j - (q + 1))
              case measure => omega
              case rel => exact ⟨q + 1, o ++ [b], m + 1, a4, c4, by omega, rfl, by simp, rfl, by omega, Lib.hid (by simp [ho.out]), HST, hb4, by rw [← B8_snoc]; exact o4⟩
          · rw [expT, if_neg hl0] at hst
            obtain ⟨L, rfl, D, rfl, hL1, hL2, hD1, hD2⟩ := may_nat l d b hl0 hmt
            simp only [Int.toNat_natCast] at hst
            clear hmt hl0
            have hz1 : ((L : Int) == 0) = false := beq_false_of_ne (by omega)
            have HST := Lib.hid hst; clear hst
            go_wp2_with fail
            clear c0 c1 c2
            go_loopg [5, 7] L (fun k s i wx => ∃ (p : Nat) (a' : Option Addr) (c' : Nat), p ≤ L ∧ k = L - p ∧ i = .int .i64 p ∧ s = .slice a' (m + p) c' ∧ Below w.heap.size w wx ∧ Own wx 5 1 w.heap.size a' (m + p) c' (B8 (repN D p o)) ∧ (p = 0 ∨ D ≤ m))
            case atStart => exact ⟨0, a, c, Nat.zero_le _, by simp, rfl, rfl, hb, hw, .inl rfl⟩
            case round =>
              obtain ⟨p, a', c', hp, rfl, rfl, rfl, hb3, hw3, hor⟩ := hrel
              rename World => wx
              obtain ⟨t', ht', nx', k0, k1, k2⟩ := (hx.below hb3).tok hlt
              rw [HT.out] at ht'; cases ht'
              simp only at k0 k1 k2
              by_cases hpl : p < L
              · by_cases hDm : D ≤ m
                · obtain ⟨ne, ce⟩ := hw3.rd.get8 (k := m + p - D) (by omega)
                  have hrp : repN D (p + 1) o = repN D p o ++ [at8 (repN D p o) (m + p - D)] := by rw [repN, rep1, repN_len, ho.out]
                  have hix : ((m + p : Nat) : Int) - (D : Int) = ((m + p - D : Nat) : Int) := by omega
                  have HIX := Lib.hid hix
                  generalize at8 (repN D p o) (m + p - D) = v at *
                  have HRP := Lib.hid hrp; clear hrp hor
                  go_wp2_with (refine wpList_push rfl _ _ _ rfl elB rfl rfl hw3 (ys := [.int .u8 (v.toNat : Int)]) rfl (by simp [Value.oneCell']) (by unfold maxLen; omega) (by omega) hb3.size ?_; intro a4 c4 w4 o4 g4 n4)
                  go_roundg (L - (p + 1))
                  case measure => omega
                  case rel => exact ⟨p + 1, a4, c4, hpl, rfl, by simp, rfl, Own.grown hb3 hw3 g4 hb3.size (Nat.le_refl _), by rw [HRP.out, ← B8_snoc]; exact o4, .inr hDm⟩
                · obtain rfl : p = 0 := by omega
                  have hst := HST.out
                  rw [if_pos (by rw [ho.out]; omega)] at hst
                  have hp := HP.out wx none 0 [] 2 hst (Own.nil _ _ _ _) hb3
                  have HPP := Lib.hid hp; clear hp hst
                  go_wp2_with fail
                  refine bodyPost_ret (results_tmp2 rfl _ _ _) rfl ?_
                  exact HPP.out
              · obtain rfl : p = L := by omega
                have hDm : D ≤ m := by omega
                have hst := HST.out
                rw [if_neg (by rw [ho.out]; omega)] at hst
                have HST2 := Lib.hid hst; clear hst
                go_wp2_with fail
                go_roundg (j - (q + 1))
                case measure => omega
                case rel => exact ⟨q + 1, repN D p o, m + p, a', c', by omega, rfl, by simp, rfl, by omega, Lib.hid (by rw [repN_len, ho.out]), HST2, hb3, hw3⟩
        · obtain rfl : q = j := by omega
          have hst := he.out
          rw [show ts.drop q = [] by rw [List.drop_eq_nil_iff, HL.out]; exact Nat.le_refl _, expT] at hst
          have HST := Lib.hid hst; clear hst
          go_wp2_with fail
          refine bodyPost_ret (results_tmp2 rfl _ _ _) rfl ?_
          obtain rfl := ho.out
          exact HP.out _ _ _ _ _ HST.out hw hb
end Go.Proofs.Ytlmpooibpopcaaa
