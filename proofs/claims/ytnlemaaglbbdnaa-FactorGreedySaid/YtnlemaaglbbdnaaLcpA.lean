/- slices.Equal, lcp.least, lcp.Common, and the document's Common and Least: the walks. -/
import Derived.Test.YtnlemaaglbbdnaaLcpM
import Derived.Test.YtnlemaaglbbdnaaSufI
import Derived.Test.YtnlemaaglbbdnaaSufH
import Derived.Test.YtnlemaaglbbdnaaSame
namespace Go.Proofs.Ytnlemaaglbbdnaa
set_option linter.unusedSimpArgs false
set_option linter.unusedVariables false
open Go.RowKit

theorem sizeJ : (Try.prog.info? 3).map (·.size) = some 1 := by kernel_rfl

set_option maxRecDepth 100000 in
set_option maxHeartbeats 2000000 in
theorem equal_law (w : World) (ad bd : Option Addr) (n cap m bc : Nat) (xs ys : List Int) (hx : Rd w 1 ad n cap (I64 xs)) (hy : Rd w 1 bd m bc (I64 ys)) :
    Calls Try.prog 30 #[.slice ad n cap, .slice bd m bc] w fun e w' => e = .returned (.bool (decide (xs = ys))) ∧ Below w.heap.size w w' := by
  have hcap : n ≤ 9223372036854775807 := by have := hx.ncap; have := hx.capM; unfold maxLen at this; omega
  have hlx := hx.lenI
  have hly := hy.lenI
  have HX := Lib.hid hlx; clear hlx
  have HY := Lib.hid hly; clear hly
  go_enter Try.func30, Try.ntmps30
  by_cases hnm : n = m
  · subst hnm
    go_wp2_with fail
    go_loopg [13] n (fun k i wr => ∃ j : Nat, j ≤ n ∧ k = n - j ∧ i = .int .i64 j ∧ Below w.heap.size w wr ∧ Hid (∀ t, t < j → atI xs t = atI ys t))
    case atStart => exact ⟨0, Nat.zero_le _, by simp, rfl, Below.refl _ _, Lib.hid (fun t ht => by omega)⟩
    case round =>
      obtain ⟨j, hj, rfl, rfl, hb, hs⟩ := hrel
      by_cases hlt : j < n
      · obtain ⟨n1, c1⟩ := (hx.below hb).getI hlt
        obtain ⟨n2, c2⟩ := (hy.below hb).getI hlt
        obtain ⟨p, hp⟩ : ∃ p, atI xs j = p := ⟨_, rfl⟩
        obtain ⟨q, hq⟩ : ∃ q, atI ys j = q := ⟨_, rfl⟩
        rw [hp] at c1; rw [hq] at c2
        have HP := Lib.hid hp; clear hp
        have HQ := Lib.hid hq; clear hq
        go_upto_region 6 with fail
        refine region_still (by kernel_rfl) (by kernel_rfl) ?_
        by_cases hpq : p = q
        · subst hpq
          go_wp2_with (first | (refine still_wp rfl rfl ?_; intro _ _) | (refine wpStill_nil ?_))
          go_roundg (n - (j + 1))
          case measure => omega
          case rel => exact ⟨j + 1, by omega, rfl, by simp, hb.drew, Lib.hid (fun t ht => by
            by_cases h : t = j
            · rw [h, HP.out, HQ.out]
            · exact hs.out t (by omega))⟩
        · go_wp2_with (first | (refine still_wp rfl rfl ?_; intro _ _) | (refine wpStill_nil ?_))
          go_ret
          refine ⟨?_, hb.drew⟩
          have : xs ≠ ys := fun e => hpq (by rw [← HP.out, ← HQ.out, e])
          simp [this]
      · obtain rfl : j = n := by omega
        go_wp2_with fail
        go_ret
        refine ⟨?_, hb⟩
        have : xs = ys := atI_ext (by rw [HX.out, HY.out]) (by rw [HX.out]; exact hs.out)
        simp [this]
  · have hnm' : ¬ ((n : Int) = (m : Int)) := by omega
    go_wp2_with fail
    go_ret
    refine ⟨?_, Below.refl _ _⟩
    have : xs ≠ ys := fun e => hnm (by rw [← HX.out, ← HY.out, e])
    simp [this]

/-- the least of one and some more -/
def leastL (a : Int) : List Int → Int
  | [] => a
  | x :: xs => leastL (min a x) xs
theorem leastL_take (a : Int) (xs : List Int) : ∀ j, j < xs.length → leastL a (xs.take (j + 1)) = min (leastL a (xs.take j)) (atI xs j) := by
  induction xs generalizing a with
  | nil => intro j hj; simp at hj
  | cons x xs ih =>
    intro j hj
    cases j with
    | zero => simp [leastL, atI]
    | succ j =>
      simp only [List.take_succ_cons, leastL]
      rw [ih (min a x) j (by simpa using hj)]
      simp [atI]

set_option maxRecDepth 100000 in
set_option maxHeartbeats 2000000 in
theorem least_law (w : World) (a : Int) (ad : Option Addr) (n cap : Nat) (xs : List Int) (hx : Rd w 1 ad n cap (I64 xs)) (hn : n ≤ 100000) :
    Calls Try.prog 49 #[.int .i64 a, .slice ad n cap] w fun e w' => e = .returned (.int .i64 (leastL a xs)) ∧ w = w' := by
  have hl := hx.lenI
  have HL := Lib.hid hl; clear hl
  go_enter Try.func49, Try.ntmps49
  go_wp2_with fail
  go_loopg [0, 9] n (fun k m i wr => ∃ j : Nat, j ≤ n ∧ k = n - j ∧ m = .int .i64 (leastL a (xs.take j)) ∧ i = .int .i64 j ∧ w = wr)
  case atStart => exact ⟨0, Nat.zero_le _, by simp, rfl, rfl, rfl⟩
  case round =>
    obtain ⟨j, hj, rfl, rfl, rfl, rfl⟩ := hrel
    by_cases hlt : j < n
    · obtain ⟨n1, c1⟩ := hx.getI hlt
      have hs := leastL_take a xs j (by rw [HL.out]; exact hlt)
      have hmn : min (leastL a (xs.take j)) (atI xs j) = if atI xs j < leastL a (xs.take j) then atI xs j else leastL a (xs.take j) := by
        simp only [Int.min_def]; split <;> split <;> omega
      rw [hmn] at hs
      clear hmn
      generalize leastL a (xs.take j) = m at *
      generalize atI xs j = x at *
      by_cases hxm : x < m
      · rw [if_pos hxm] at hs
        have HS := Lib.hid hs; clear hs
        go_wp2_with fail
        go_roundg (n - (j + 1))
        case measure => omega
        case rel => exact ⟨j + 1, by omega, rfl, by rw [HS.out], by simp, rfl⟩
      · rw [if_neg hxm] at hs
        have HS := Lib.hid hs; clear hs
        go_wp2_with fail
        go_roundg (n - (j + 1))
        case measure => omega
        case rel => exact ⟨j + 1, by omega, rfl, by rw [HS.out], by simp, rfl⟩
    · obtain rfl : n = j := by omega
      rw [show xs.take n = xs by rw [← HL.out]; exact List.take_length]
      go_wp2_with fail
      go_ret
      exact ⟨rfl, rfl⟩

theorem lst_least (xs : List Int) (a : Nat) : ∀ k, a + k < xs.length → leastL (atI xs a) ((xs.take (a + k + 1)).drop (a + 1)) = lstI xs a k
  | 0, h => by rw [List.drop_eq_nil_of_le (by simp; omega)]; rfl
  | k + 1, h => by
    have e : (xs.take (a + (k + 1) + 1)).drop (a + 1) = (xs.drop (a + 1)).take (k + 1) := by rw [List.drop_take]; congr 1; omega
    have e2 : (xs.take (a + k + 1)).drop (a + 1) = (xs.drop (a + 1)).take k := by rw [List.drop_take]; congr 1; omega
    rw [e, leastL_take _ _ _ (by simp; omega), ← e2, lst_least xs a k (by omega)]
    simp only [lstI]
    congr 1
    simp [atI, List.getD_eq_getElem?_getD, List.getElem?_drop]
    congr 2; omega

/-- what Common answers -/
def cmmI (xs : List Int) (p q : Int) : Int × Int := if p < 0 ∨ q ≤ p ∨ (xs.length : Int) ≤ q then (0, 5) else (lstI xs (p.toNat + 1) (q.toNat - p.toNat - 1), 0)

set_option maxRecDepth 100000 in
set_option maxHeartbeats 4000000 in
theorem common_law (w : World) (ad : Option Addr) (n cap : Nat) (xs : List Int) (hx : Rd w 1 ad n cap (I64 xs)) (hn : n ≤ 100000) (p q : Int) :
    Calls Try.prog 36 #[.slice ad n cap, .int .i64 p, .int .i64 q] w fun e w' => e = .returned (.tuple #[.int .i64 (cmmI xs p q).1, .int .i64 (cmmI xs p q).2]) ∧ Below w.heap.size w w' := by
  have hl := hx.lenI
  have HL := Lib.hid hl; clear hl
  by_cases hbad : p < 0 ∨ q ≤ p ∨ (n : Int) ≤ q
  · have hc : cmmI xs p q = (0, 5) := by rw [cmmI, HL.out, if_pos hbad]
    rw [hc]
    by_cases h1 : p < 0
    · go_enter Try.func36, Try.ntmps36
      go_wp2
      refine bodyPost_ret (results_tmp2 rfl _ _ _) rfl ?_
      exact ⟨rfl, Below.refl _ _⟩
    by_cases h2 : q ≤ p
    · go_enter Try.func36, Try.ntmps36
      go_wp2
      refine bodyPost_ret (results_tmp2 rfl _ _ _) rfl ?_
      exact ⟨rfl, Below.refl _ _⟩
    have h3 : (n : Int) ≤ q := by omega
    go_enter Try.func36, Try.ntmps36
    go_wp2
    refine bodyPost_ret (results_tmp2 rfl _ _ _) rfl ?_
    exact ⟨rfl, Below.refl _ _⟩
  · obtain ⟨a, rfl⟩ : ∃ a : Nat, p = (a : Int) := ⟨p.toNat, by omega⟩
    obtain ⟨c, rfl⟩ : ∃ c : Nat, q = (c : Int) := ⟨q.toNat, by omega⟩
    have hac : a < c := by omega
    have hcn : c < n := by omega
    have hcm : cmmI xs a c = (leastL (atI xs (a + 1)) ((xs.take (c + 1)).drop (a + 2)), 0) := by
      rw [cmmI, HL.out, if_neg hbad, Int.toNat_natCast, Int.toNat_natCast, ← lst_least xs (a + 1) (c - a - 1) (by rw [HL.out]; omega), show a + 1 + (c - a - 1) + 1 = c + 1 by omega]
    have HC := Lib.hid hcm; clear hcm
    have h1 : ¬ (a : Int) < 0 := by omega
    have h2 : ¬ (c : Int) ≤ (a : Int) := by omega
    have h3 : ¬ (n : Int) ≤ (c : Int) := by omega
    clear hbad
    obtain ⟨nx, cx⟩ := hx.getI (k := a + 1) (by omega)
    have hr1 := hx.cut (a + 2) (c + 1) (by omega) (by omega)
    have hcut := fun W => run_cut2 (P := Try.prog) Try.underlying28 sizeJ hx (a + 2) (c + 1) (by omega) (by omega) W
    rw [show ((I64 xs).take (c + 1)).drop (a + 2) = I64 ((xs.take (c + 1)).drop (a + 2)) by simp [I64, List.map_take, List.map_drop]] at hr1
    obtain ⟨a1, ha1⟩ : ∃ a1, a + 1 = a1 := ⟨_, rfl⟩
    obtain ⟨a2, ha2⟩ : ∃ a2, a + 2 = a2 := ⟨_, rfl⟩
    obtain ⟨c1, hc1⟩ : ∃ c1, c + 1 = c1 := ⟨_, rfl⟩
    have e1 : (a : Int) + 1 = (a1 : Int) := by omega
    have e2 : (a : Int) + 2 = (a2 : Int) := by omega
    have e3 : (c : Int) + 1 = (c1 : Int) := by omega
    rw [ha1] at cx HC
    rw [ha2, hc1] at hr1 hcut HC
    have w1 : IntKind.i64.wrap (a1 : Int) = (a1 : Int) := IntWalk.i64_in _ (by omega)
    have w2 : IntKind.i64.wrap (a2 : Int) = (a2 : Int) := IntWalk.i64_in _ (by omega)
    have w3 : IntKind.i64.wrap (c1 : Int) = (c1 : Int) := IntWalk.i64_in _ (by omega)
    have b1 : (a1 : Int) < (n : Int) := by omega
    have hn2 : c1 - a2 ≤ 100000 := by omega
    clear ha1 ha2 hc1
    generalize atI xs a1 = x1 at *
    generalize ((xs.take c1).drop a2) = ys at *
    go_enter Try.func36, Try.ntmps36
    go_wp2_with fail
    have hrd := hr1.drew
    go_region_held3 (fun w' => w'.cell? (sAt ad a1) = some (.int .i64 x1)) (first | (exact cell_below cx b9) | go_keep)
      (first | (go_at_call 49; refine (least_law _ _ _ _ _ _ hrd hn2).mono ?_; rintro e w9 ⟨rfl, hw9⟩; have b9 : Below w.heap.size w w9 := (by rw [← hw9]; exact (Below.refl _ _).drew)))
    all_goals
      go_wp2_with fail
      refine bodyPost_ret (results_tmp2 rfl _ _ _) rfl ?_
      exact ⟨by rw [HC.out]; rfl, b9⟩
end Go.Proofs.Ytnlemaaglbbdnaa
