/- sufsort.Places and the document's Places: the walks. -/
import Derived.Test.YtnlemaaglbbdnaaSufB
import Derived.Test.YtnlemaaglbbdnaaPerm
namespace Go.Proofs.Ytnlemaaglbbdnaa
set_option linter.unusedSimpArgs false
set_option linter.unusedVariables false
open Go.RowKit

theorem tBl : ElTy Try.prog 61 4 (.bool false) 1 1 := ⟨Try.underlying61, info_parts (by kernel_rfl), rfl, by decide⟩
def BL (xs : List Bool) : List Value := xs.map .bool
def atB (xs : List Bool) (k : Nat) : Bool := xs.getD k false
theorem BL_len (xs : List Bool) : (BL xs).length = xs.length := by simp [BL]
theorem BL_get (xs : List Bool) (k : Nat) (h : k < xs.length) : (BL xs)[k]? = some (.bool (atB xs k)) := by simp [BL, atB, h]
theorem BL_set (xs : List Bool) (j : Nat) (v : Bool) : (BL xs).set j (.bool v) = BL (xs.set j v) := by simp [BL, List.map_set]
theorem BL_none (n : Nat) : List.replicate n (Value.bool false) = BL (List.replicate n false) := by simp [BL]
theorem atB_set (xs : List Bool) (j k : Nat) (v : Bool) (h : k < xs.length) : atB (xs.set j v) k = if k = j then v else atB xs k := by
  simp only [atB, List.getD_eq_getElem?_getD, List.getElem?_set]
  by_cases hj : j = k
  · subst hj; simp [h]
  · simp [hj, Ne.symm hj, fun e : k = j => hj e.symm]
theorem Own.lenB {w : World} {e lo n cap : Nat} {ad : Option Addr} {xs : List Bool} (h : Own w e 1 lo ad n cap (BL xs)) : xs.length = n := by have := h.1.1; simpa [BL_len] using this
theorem Own.getB {w : World} {e lo g n cap : Nat} {xs : List Bool} (h : Own w e 1 lo (some ⟨g, 0, none⟩) n cap (BL xs)) {k : Nat} (hk : k < n) : w.cell? ⟨g, k, none⟩ = some (.bool (atB xs k)) ∧ w.frozen? ⟨g, k, none⟩ = false :=
  h.read (BL_get xs k (by rw [h.lenB]; exact hk))
theorem Own.setB {w : World} {e lo g n cap : Nat} {xs : List Bool} (h : Own w e 1 lo (some ⟨g, 0, none⟩) n cap (BL xs)) (j : Nat) (v : Bool) : Own (w.setCell ⟨g, j, none⟩ (.bool v)) e 1 lo (some ⟨g, 0, none⟩) n cap (BL (xs.set j v)) := by
  have := h.set j (.bool v) rfl
  rwa [BL_set] at this

set_option maxRecDepth 100000 in
set_option maxHeartbeats 4000000 in
theorem places_law (w : World) (ad : Option Addr) (n cap : Nat) (xs : List Int) (hb : Rd w 1 ad n cap (I64 xs)) (hn : n ≤ 100000) :
    Calls Try.prog 20 #[.slice ad n cap] w fun e w' =>
      ((¬ Good xs ∧ e = .returned (.slice none 0 0)) ∨ (Good xs ∧ ∃ g out, e = .returned (.slice (some ⟨g, 0, none⟩) n n) ∧ Own w' 3 1 w.heap.size (some ⟨g, 0, none⟩) n n (N64 out) ∧ Inv xs out)) ∧ Below w.heap.size w w' := by
  have hl := hb.lenI
  have HL := Lib.hid hl; clear hl
  have h63 : n ≤ maxLen := by unfold maxLen; omega
  have H1 := Lib.hid h63; clear h63
  have hby : 8 * n ≤ 281474976710656 := by omega
  have H2 := Lib.hid hby; clear hby
  have hby : 1 * n ≤ 281474976710656 := by omega
  have H3 := Lib.hid hby; clear hby
  obtain ⟨B, hB⟩ : ∃ B, w.heap.size = B := ⟨_, rfl⟩
  have HB := Lib.hid hB; clear hB
  go_enter Try.func20, Try.ntmps20
  go_upto_region 1 with fail
  go_upto_region 2 with (refine wpList_mk rfl _ _ _ rfl tI rfl rfl n rfl rfl rfl rfl H1.out H2.out ?_; intro w1 o1 b1 s1; have S1 := Lib.hid s1; clear s1)
  rw [N64_zeros] at o1
  rw [HB.out] at o1 b1 S1 ⊢
  have hBn : B < B + 1 := Nat.lt_succ_self _
  go_upto_region 3 with (refine wpList_mk rfl _ _ _ rfl tBl rfl rfl n rfl rfl rfl rfl H1.out H3.out ?_; intro w2 o2 b2 s2; have S2 := Lib.hid s2; clear s2)
  have o12 := o1.below b2
  rw [BL_none] at o2
  rw [S1.out] at o2 b2 S2 ⊢
  have c2 := b1.trans (b2.mono (by omega))
  have hs2 := S2.out
  have hs2' : B < w2.heap.size := by omega
  clear hs2 o1 b1 S1
  go_wp2_with fail
  go_loopg [15] n (fun k i wr => ∃ (j : Nat) (out : List Nat) (sn : List Bool), j ≤ n ∧ k = n - j ∧ i = .int .i64 j ∧ Below B w wr ∧ B < wr.heap.size ∧ Own wr 3 1 B (some ⟨B, 0, none⟩) n n (N64 out) ∧ Own wr 4 1 (B + 1) (some ⟨B + 1, 0, none⟩) n n (BL sn) ∧
    Hid ((∀ p, p < j → 0 ≤ atI xs p ∧ atI xs p < n ∧ atN out (atI xs p).toNat = p ∧ atB sn (atI xs p).toNat = true) ∧ (∀ v, v < n → atB sn v = true → ∃ p, p < j ∧ atI xs p = (v : Int))))
  case atStart => exact ⟨0, _, _, Nat.zero_le _, by simp, rfl, c2, hs2', o12, o2, Lib.hid ⟨fun p hp => by omega, fun v hv h => by simp [atB, hv] at h⟩⟩
  case round =>
    obtain ⟨j, out, sn, hj, rfl, rfl, hbr, hBr, oa, ob, hI⟩ := hrel
    rename World => wr
    clear c2 o12 o2 b2 S2
    by_cases hlt : j < n
    · have hbw : Below w.heap.size w wr := by rw [HB.out]; exact hbr
      obtain ⟨nx, cx⟩ := (hb.below hbw).getI hlt
      obtain ⟨v, hv⟩ : ∃ v, atI xs j = v := ⟨_, rfl⟩
      rw [hv] at cx
      have HV := Lib.hid hv; clear hv
      by_cases h0 : v < 0
      · clear oa ob
        go_wp2_with fail
        go_ret
        exact ⟨.inl ⟨fun hg => by have := hg.lo j (by rw [HL.out]; exact hlt); rw [HV.out] at this; omega, rfl⟩, hbw⟩
      by_cases h1 : v < (n : Int)
      · obtain ⟨u, rfl⟩ : ∃ u : Nat, v = (u : Int) := ⟨v.toNat, by omega⟩
        have hu : u < n := by omega
        clear h1 h0
        have h1 : ¬ (n : Int) ≤ (u : Int) := by omega
        have h0 : ¬ (u : Int) < 0 := by omega
        obtain ⟨ca, fa⟩ := oa.getN hu
        obtain ⟨cb, fb⟩ := ob.getB hu
        by_cases hsn : atB sn u = true
        · rw [hsn] at cb
          clear oa ob ca fa fb
          have HSN := Lib.hid hsn; clear hsn
          go_wp2_with fail
          go_ret
          refine ⟨.inl ⟨fun hg => ?_, rfl⟩, hbw⟩
          obtain ⟨p, hp, e⟩ := hI.out.2 u hu HSN.out
          have := hg.inj p j (by rw [HL.out]; omega) (by rw [HL.out]; exact hlt) (by rw [HV.out, e])
          omega
        · have hsf : atB sn u = false := by simpa using hsn
          rw [hsf] at cb
          clear hsn
          have HSF := Lib.hid hsf; clear hsf
          have hne : ¬ B + 1 = B := by omega
          go_wp2_with fail
          go_roundg (n - (j + 1))
          case measure => omega
          case rel =>
            have la : out.length = n := oa.rd.lenN
            have lb := ob.lenB
            refine ⟨j + 1, _, _, by omega, rfl, by simp, (hbr.setCell (Nat.le_refl _) _).setCell (by simp) _, by simpa using hBr, (oa.setN u j).setOther _ _ (fun g hg => by simp at hg ⊢; omega), (ob.setOther _ _ (fun g hg => by simp at hg ⊢; omega)).setB u true, Lib.hid ⟨fun p hp => ?_, fun v hv hvt => ?_⟩⟩
            · by_cases e : p = j
              · subst e
                rw [HV.out, show (u : Int).toNat = u by omega, atN_set _ _ _ _ (by omega), atB_set _ _ _ _ (by omega), if_pos rfl, if_pos rfl]
                exact ⟨by omega, by omega, rfl, rfl⟩
              · obtain ⟨i1, i2, i3, i4⟩ := hI.out.1 p (by omega)
                have hpu : (atI xs p).toNat ≠ u := fun e => by rw [e, HSF.out] at i4; cases i4
                rw [atN_set _ _ _ _ (by omega), atB_set _ _ _ _ (by omega), if_neg hpu, if_neg hpu]
                exact ⟨i1, i2, i3, i4⟩
            · rw [atB_set _ _ _ _ (by omega)] at hvt
              by_cases e : v = u
              · exact ⟨j, by omega, by rw [HV.out, e]⟩
              · rw [if_neg e] at hvt
                obtain ⟨p, hp, e2⟩ := hI.out.2 v hv hvt
                exact ⟨p, by omega, e2⟩
      · have h1' : (n : Int) ≤ v := by omega
        clear oa ob
        go_wp2_with fail
        go_ret
        exact ⟨.inl ⟨fun hg => by have := hg.hi j (by rw [HL.out]; exact hlt); rw [HV.out, HL.out] at this; omega, rfl⟩, hbw⟩
    · obtain rfl : n = j := by omega
      have la : out.length = n := oa.rd.lenN
      have hbw : Below w.heap.size w wr := by rw [HB.out]; exact hbr
      have LA := Lib.hid la; clear la
      go_wp2_with fail
      go_ret
      refine ⟨.inr ⟨⟨fun p hp => (hI.out.1 p (by rw [HL.out] at hp; exact hp)).1, fun p hp => by rw [HL.out] at hp ⊢; exact (hI.out.1 p hp).2.1, fun p q hp hq e => ?_⟩, B, out, rfl, by rw [HB.out]; exact oa, by rw [LA.out, HL.out], fun p hp => (hI.out.1 p (by rw [HL.out] at hp; exact hp)).2.2.1⟩, hbw⟩
      rw [HL.out] at hp hq
      rw [← (hI.out.1 p hp).2.2.1, ← (hI.out.1 q hq).2.2.1, e]

end Go.Proofs.Ytnlemaaglbbdnaa
