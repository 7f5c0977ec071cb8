/- FactorTwice. -/
import Derived.Test.YtnlemaaglbbdnaaFacH
namespace Go.Proofs.Ytnlemaaglbbdnaa
set_option linter.unusedSimpArgs false
set_option linter.unusedVariables false
open Go.RowKit

theorem twice_com (b : List UInt8) {r : Nat} (hr : r ≤ b.length) : com (b ++ b) (b.length - r) (b.length + b.length - r) = r := by
  refine Com.eq ⟨fun s hs => ?_, ?_⟩
  · rw [onB_iff]
    refine ⟨by simp; omega, by simp; omega, ?_⟩
    simp only [at8, List.getD_eq_getElem?_getD]
    rw [List.getElem?_append_left (by omega), List.getElem?_append_right (by omega)]
    congr 2; omega
  · rw [Bool.eq_false_iff]
    intro h
    have := ((onB_iff _ _ _).1 h).2.1
    simp at this; omega
theorem twice_step {b : List UInt8} {o : List Nat} (ho : Ordered (b ++ b) false o) {r : Nat} (hr : r ≤ b.length) (h3 : 3 ≤ r) (hb : b.length ≤ 32768) :
    ∃ d : Nat, facT (b ++ b) o 0 (b.length + b.length - r) = ⟨(min r 258 : Nat), d, 0⟩ :: facT (b ++ b) o 0 (b.length + b.length - (r - min r 258)) := by
  have hlen : (b ++ b).length = b.length + b.length := List.length_append
  obtain ⟨d', _, _, _, _, h⟩ := facT_some ho (i := b.length + b.length - r) (m := min r 258) (d := b.length) (by rw [hlen]; omega) (by omega) (by omega) (by omega) hb
    (by rw [show b.length + b.length - r - b.length = b.length - r by omega, twice_com b hr])
    (fun d' h1 h2 h4 => by
      have := com_in (b ++ b) (i := b.length + b.length - r) (b.length + b.length - r - d') (by rw [hlen]; omega)
      rw [com_comm, hlen] at this; omega)
  refine ⟨d', ?_⟩
  rw [h]
  congr 2
  omega
theorem twice_len {b : List UInt8} {o : List Nat} (ho : Ordered (b ++ b) false o) (hb : b.length ≤ 32768) : ∀ (k r : Nat), r ≤ k → r ≤ b.length → (r + 257) / 258 ≤ (facT (b ++ b) o 0 (b.length + b.length - r)).length ∧ (facT (b ++ b) o 0 (b.length + b.length - r)).length ≤ r / 258 + 2
  | 0, r, h, hr => by
    have hlen : (b ++ b).length = b.length + b.length := List.length_append
    have e : r = 0 := by omega
    subst e
    rw [facT_end _ _ _ _ (by rw [hlen]; omega)]
    simp
  | k + 1, r, h, hr => by
    have hlen : (b ++ b).length = b.length + b.length := List.length_append
    by_cases h3 : 3 ≤ r
    · obtain ⟨d, hd⟩ := twice_step ho hr h3 hb
      obtain ⟨i1, i2⟩ := twice_len ho hb k (r - min r 258) (by omega) (by omega)
      rw [hd, List.length_cons]
      by_cases h4 : r ≤ 258
      · rw [Nat.min_eq_left h4, Nat.sub_self, facT_end _ _ _ _ (by rw [hlen]; omega)]
        simp; omega
      · rw [Nat.min_eq_right (by omega)] at i1 i2 ⊢
        omega
    · have h1 := facT_all ho 0 (b.length + b.length - r) (by rw [hlen]; omega)
      have h2 := sumA_len (facT (b ++ b) o 0 (b.length + b.length - r))
      rw [hlen] at h1
      refine ⟨?_, by omega⟩
      rcases Nat.eq_zero_or_pos r with e | e
      · subst e; omega
      · have := facT_cons (b ++ b) o 0 (b.length + b.length - r) (by rw [hlen]; omega)
        rw [this, List.length_cons]; omega

set_option maxRecDepth 100000 in
set_option maxHeartbeats 4000000 in
theorem factorTwice_law (w : World) (ad : Option Addr) (n cap : Nat) (b : List UInt8) (hb : Rd w 1 ad n cap (B8 b)) :
    Calls Try.prog 6 #[.slice ad n cap] w fun e w' => e = .returned (.bool true) ∧ Below w.heap.size w w' := by
  by_cases hn : 600 < n
  · go_enter Try.func6, Try.ntmps6
    go_wp2_with fail
    refine (tells_any w).mono ?_
    rintro e w9 ⟨rfl, b9⟩
    go_wp2_with fail
    go_ret
    exact ⟨rfl, b9⟩
  by_cases hn3 : n < 3
  · go_enter Try.func6, Try.ntmps6
    go_wp2_with fail
    refine (tells_any w).mono ?_
    rintro e w9 ⟨rfl, b9⟩
    go_wp2_with fail
    go_ret
    exact ⟨rfl, b9⟩
  have hl := hb.len8
  obtain ⟨o, ho⟩ := ordE (b ++ b)
  obtain ⟨t1, t2⟩ := twice_len ho (by omega) n n (Nat.le_refl _) (by omega)
  obtain ⟨d, hd⟩ := twice_step ho (r := n) (by omega) (by omega) (by omega)
  rw [hl, Nat.add_sub_cancel] at t1 t2 hd
  generalize facT (b ++ b) o 0 (n + n - (n - min n 258)) = tl at *
  obtain ⟨q1, hq1⟩ : ∃ q1, (n + 257) / 258 = q1 := ⟨_, rfl⟩
  obtain ⟨q2, hq2⟩ : ∃ q2, n / 258 = q2 := ⟨_, rfl⟩
  have e1 : ((n : Int) + 258 - 1).tdiv 258 = (q1 : Int) := by
    rw [show (n : Int) + 258 - 1 = ((n + 257 : Nat) : Int) by omega, ← hq1]; rfl
  have e2 : (n : Int).tdiv 258 = (q2 : Int) := by rw [← hq2]; rfl
  have hq20 : q2 ≤ 3 := by omega
  rw [hq1] at t1; rw [hq2] at t2
  have HL := Lib.hid hl; clear hl
  have hll : (b ++ b).length = n + n := by rw [List.length_append, HL.out]
  have hfac := fun W a c (h : Rd W 1 a (n + n) c (B8 (b ++ b))) => factor_law W a (n + n) c (b ++ b) h (by omega) o ho n (by omega) 0 (by decide)
  obtain ⟨L, hL⟩ : ∃ L, (facT (b ++ b) o 0 n).length = L := ⟨_, rfl⟩
  rw [hL] at t1 t2
  simp only [hL] at hfac
  rw [hd] at hfac hL
  have hL0 : 0 < L := by rw [← hL]; simp
  have HF := Lib.hid hfac
  clear hfac ho hq1 hq2 hd hL hll
  have hL3 : L ≤ q2 + 3 := by omega
  go_enter Try.func6, Try.ntmps6
  go_wp2_with (first | (refine wpList_clone rfl _ _ _ rfl elB rfl rfl hb (by unfold maxLen; omega) (by omega) ?_; intro a1 k1 w1 o1 b1 s1; have hb1 := hb.below b1; clear s1) | (refine wpList_app rfl _ _ _ rfl elB rfl rfl o1 hb1 (by unfold maxLen; omega) (by omega) b1.size ?_; intro a2 c2 w2 o2 g2 n2))
  have b2 := Own.grown b1 o1 g2 b1.size (Nat.le_refl _)
  rw [B8_app] at o2
  refine (HF.out w2 _ _ o2.rd).mono ?_
  rintro e w3 ⟨a3, c3, rfl, o3, b3⟩
  have c3 := b2.trans (b3.mono b2.size)
  obtain ⟨g, rfl, _⟩ := own_some o3 hL0
  have cz := o3.rd.cellAt (j := 0) rfl
  rw [sAt_lit] at cz
  dsimp only at cz
  clear o1 o2 o3 hb1 b3 g2 n2 b1 b2
  by_cases h258 : 258 < n
  · have hmn : ((min n 258 : Nat) : Int) = 258 := by omega
    rw [hmn] at cz
    go_wp2_with fail
    refine (tells_any w3).mono ?_
    rintro e w9 ⟨rfl, b9⟩
    go_wp2_with fail
    go_ret
    exact ⟨rfl, c3.trans (b9.mono c3.size)⟩
  · have hmn : ((min n 258 : Nat) : Int) = (n : Int) := by omega
    rw [hmn] at cz
    go_wp2_with fail
    refine (tells_any w3).mono ?_
    rintro e w9 ⟨rfl, b9⟩
    go_wp2_with fail
    go_ret
    exact ⟨rfl, c3.trans (b9.mono c3.size)⟩
end Go.Proofs.Ytnlemaaglbbdnaa
