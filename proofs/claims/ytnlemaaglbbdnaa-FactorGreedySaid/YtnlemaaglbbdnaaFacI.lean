/- the document's lengths of repetitions. -/
import Derived.Test.YtnlemaaglbbdnaaFacH
namespace Go.Proofs.Ytnlemaaglbbdnaa
set_option linter.unusedSimpArgs false
set_option linter.unusedVariables false
open Go.RowKit

set_option maxRecDepth 100000 in
set_option maxHeartbeats 4000000 in
theorem alike_law (w : World) (ad : Option Addr) (n cap : Nat) (b : List UInt8) (hb : Rd w 1 ad n cap (B8 b)) (hn : n ≤ 100000) (i d : Nat) (h1 : 1 ≤ d) (hd : d ≤ i) (hi : i ≤ n) :
    Calls Try.prog 26 #[.slice ad n cap, .int .i64 (i : Int), .int .i64 (d : Int), .int .i64 258] w fun e w' => e = .returned (.int .i64 ((min 258 (com b (i - d) i) : Nat) : Int)) ∧ Below w.heap.size w w' := by
  have hl := hb.len8
  have HL := Lib.hid hl; clear hl
  go_enter Try.func26, Try.ntmps26
  go_wp2_with fail
  go_loopg [9] 258 (fun k v wr => ∃ m : Nat, m ≤ 258 ∧ k = 258 - m ∧ v = .int .i64 (m : Int) ∧ Below w.heap.size w wr ∧ Hid (m ≤ com b (i - d) i))
  case atStart => exact ⟨0, Nat.zero_le _, by simp, rfl, Below.refl _ _, Lib.hid (Nat.zero_le _)⟩
  case round =>
    obtain ⟨m, hm, rfl, rfl, bw, hc⟩ := hrel
    rename World => wr
    have hbr := hb.below bw
    by_cases h2 : m < 258
    · have q1 : decide ((m : Int) < 258) = true := deT (by omega)
      have q1n : decide (m < 258) = true := deT (by omega)
      obtain ⟨x, hx⟩ : ∃ x, i + m = x := ⟨_, rfl⟩
      have e1 : (i : Int) + (m : Int) = (x : Int) := by omega
      have w1 : IntKind.i64.wrap (x : Int) = (x : Int) := IntWalk.i64_in _ (by omega)
      by_cases h3 : x < n
      · have q2 : decide ((x : Int) < (n : Int)) = true := deT (by omega)
        have q2n : decide (x < n) = true := deT h3
        obtain ⟨y, hy⟩ : ∃ y, x - d = y := ⟨_, rfl⟩
        have e2 : (x : Int) - (d : Int) = (y : Int) := by omega
        have w2 : IntKind.i64.wrap (y : Int) = (y : Int) := IntWalk.i64_in _ (by omega)
        have hyn : y < n := by omega
        obtain ⟨nx, cx⟩ := hbr.get8 h3
        obtain ⟨ny, cy⟩ := hbr.get8 hyn
        obtain ⟨u, hu⟩ : ∃ u, at8 b x = u := ⟨_, rfl⟩
        obtain ⟨v, hv⟩ : ∃ v, at8 b y = v := ⟨_, rfl⟩
        rw [hu] at cx; rw [hv] at cy
        have hon : onB b (i - d + m) (i + m) = true ↔ v = u := by
          rw [onB_iff, HL.out, show i - d + m = y by omega, hx, hu, hv]
          exact ⟨fun h => h.2.2, fun h => ⟨hyn, h3, h⟩⟩
        have HON := Lib.hid hon; clear hon hu hv
        have HX := Lib.hid hx; clear hx
        have HY := Lib.hid hy; clear hy
        by_cases huv : u = v
        · have hc2 : m + 1 ≤ com b (i - d) i := by
            rcases Nat.lt_or_ge m (com b (i - d) i) with h | h
            · exact h
            · have := (com_is b (i - d) i).2
              rw [show com b (i - d) i = m by have := hc.out; omega, HON.out.2 huv.symm] at this
              cases this
          have HC2 := Lib.hid hc2; clear hc2
          have q3 : (((u.toNat : Nat) : Int) == ((v.toNat : Nat) : Int)) = true := by rw [huv]; simp
          subst huv
          go_wp2_with fail
          (try simp only [List.append])
          refine wp_region_quiet_lit (by kernel_rfl) (by kernel_rfl) ?_
          repeat (go_big_quiet_step (fail))
          refine wpQuiet_nil ?_
          intro _ hw'
          obtain ⟨nq, hw''⟩ := hw'
          subst hw''
          go_wp2_with fail
          go_roundg (258 - (m + 1))
          case measure => omega
          case rel => exact ⟨m + 1, h2, rfl, by simp, bDraws bw nq, HC2⟩
        · have hc2 : com b (i - d) i = m := by
            rcases Nat.lt_or_ge m (com b (i - d) i) with h | h
            · exact absurd (HON.out.1 ((com_is b (i - d) i).1 m h)).symm huv
            · have := hc.out; omega
          have hre : min 258 (com b (i - d) i) = m := by omega
          have HRE := Lib.hid hre
          clear hc2 hre
          have hne : ¬ u.toNat = v.toNat := fun h => huv (UInt8.toNat_inj.1 h)
          generalize u.toNat = un at *
          generalize v.toNat = vn at *
          have q3 : (((un : Nat) : Int) == ((vn : Nat) : Int)) = false := beq_eq_false_iff_ne.2 (by omega)
          go_wp2_with fail
          (try simp only [List.append])
          refine wp_region_quiet_lit (by kernel_rfl) (by kernel_rfl) ?_
          repeat (go_big_quiet_step (fail))
          refine wpQuiet_nil ?_
          intro _ hw'
          obtain ⟨nq, hw''⟩ := hw'
          subst hw''
          go_wp2_with fail
          go_ret
          exact ⟨by rw [HRE.out]; rfl, bDraws bw nq⟩
      · have q2 : decide ((x : Int) < (n : Int)) = false := deF (by omega)
        have q2n : decide (x < n) = false := deF h3
        have hc2 : com b (i - d) i = m := by
          have h5 := com_in b (i := i) (i - d) (by rw [HL.out]; omega)
          rw [com_comm, HL.out] at h5
          have := hc.out; omega
        have hre : min 258 (com b (i - d) i) = m := by omega
        have HRE := Lib.hid hre
        clear hc2 hre hx
        go_wp2_with fail
        (try simp only [List.append])
        refine wp_region_quiet_lit (by kernel_rfl) (by kernel_rfl) ?_
        repeat (go_big_quiet_step (fail))
        refine wpQuiet_nil ?_
        intro _ hw'
        obtain ⟨nq, hw''⟩ := hw'
        subst hw''
        go_wp2_with fail
        go_ret
        exact ⟨by rw [HRE.out]; rfl, bDraws bw nq⟩
    · obtain rfl : m = 258 := by omega
      have hre : min 258 (com b (i - d) i) = 258 := Nat.min_eq_left hc.out
      have HRE := Lib.hid hre
      clear hre
      go_wp2_with fail
      (try simp only [List.append])
      refine wp_region_quiet_lit (by kernel_rfl) (by kernel_rfl) ?_
      repeat (go_big_quiet_step (fail))
      refine wpQuiet_nil ?_
      intro _ hw'
      obtain ⟨nq, hw''⟩ := hw'
      subst hw''
      go_wp2_with fail
      go_ret
      exact ⟨by rw [HRE.out]; rfl, bDraws bw nq⟩

set_option maxRecDepth 100000 in
set_option maxHeartbeats 4000000 in
theorem refLongest_law (w : World) (ad : Option Addr) (n cap : Nat) (b : List UInt8) (hb : Rd w 1 ad n cap (B8 b)) (hn : n ≤ 100000) (i : Nat) (hi : i ≤ n) :
    Calls Try.prog 15 #[.slice ad n cap, .int .i64 (i : Int)] w fun e w' => e = .returned (.int .i64 ((bestL b i : Nat) : Int)) ∧ Below w.heap.size w w' := by
  go_enter Try.func15, Try.ntmps15
  go_wp2_with fail
  go_loopg [5, 6] (min i 32768) (fun k v5 v6 wr => ∃ d : Nat, d ≤ i ∧ d ≤ 32768 ∧ k = min i 32768 - d ∧ v5 = .int .i64 ((bestF b i d : Nat) : Int) ∧ v6 = .int .i64 ((d + 1 : Nat) : Int) ∧ Below w.heap.size w wr)
  case atStart => exact ⟨0, Nat.zero_le _, Nat.zero_le _, by simp, rfl, rfl, Below.refl _ _⟩
  case round =>
    obtain ⟨d, hd, hd2, rfl, rfl, rfl, bw⟩ := hrel
    rename World => wr
    have hbr := hb.below bw
    have hst : bestF b i (d + 1) = max (bestF b i d) (min 258 (com b (i - (d + 1)) i)) := rfl
    obtain ⟨m, hm⟩ : ∃ m, bestF b i d = m := ⟨_, rfl⟩
    obtain ⟨D, hD⟩ : ∃ D, d + 1 = D := ⟨_, rfl⟩
    rw [hD] at hst ⊢
    rw [hm] at hst ⊢
    by_cases h1 : D ≤ i
    · by_cases h2 : D ≤ 32768
      · have h2' : (D : Int) ≤ 32768 := by omega
        have hal := alike_law wr ad n cap b hbr hn i D (by omega) h1 hi
        generalize min 258 (com b (i - D) i) = a at *
        have HST := Lib.hid hst; clear hst
        have HD := Lib.hid hD; clear hD
        clear hm
        go_wp2_with fail
        refine hal.mono ?_
        rintro e w2 ⟨rfl, b2⟩
        have b3 := bw.trans (b2.mono bw.size)
        by_cases hma : m < a
        · have hmx : max m a = a := by omega
          rw [hmx] at HST
          go_wp2_with fail
          go_roundg (min i 32768 - D)
          case measure => have := HD.out; omega
          case rel => exact ⟨D, h1, h2, rfl, by rw [HST.out], by simp, b3⟩
        · have hmx : max m a = m := by omega
          rw [hmx] at HST
          go_wp2_with fail
          go_roundg (min i 32768 - D)
          case measure => have := HD.out; omega
          case rel => exact ⟨D, h1, h2, rfl, by rw [HST.out], by simp, b3⟩
      · have h2' : ¬ (D : Int) ≤ 32768 := by omega
        have hb2 : bestL b i = m := by rw [bestL, show min i 32768 = d by omega, hm]
        have HRE := Lib.hid hb2
        clear hb2 hD hm hst
        go_wp2_with fail
        go_ret
        exact ⟨by rw [HRE.out]; rfl, bw⟩
    · have hb2 : bestL b i = m := by rw [bestL, show min i 32768 = d by omega, hm]
      have HRE := Lib.hid hb2
      clear hb2 hD hm hst
      go_wp2_with fail
      go_ret
      exact ⟨by rw [HRE.out]; rfl, bw⟩

def lensL (b : List UInt8) (o : List Nat) (i : Nat) : List Int := (facT b o 0 i).map (·.len)
set_option maxRecDepth 100000 in
set_option maxHeartbeats 4000000 in
theorem refLengths_law (w : World) (ad : Option Addr) (n cap : Nat) (b : List UInt8) (hb : Rd w 1 ad n cap (B8 b)) (hn : n ≤ 100000) (o : List Nat) (ho : Ordered b false o) (f : Nat) (hf : f ≤ n) :
    Calls Try.prog 10 #[.slice ad n cap, .int .i64 (f : Int)] w fun e w' => ∃ a c, e = .returned (.slice a (facT b o 0 f).length c) ∧ Own w' 3 1 w.heap.size a (facT b o 0 f).length c (I64 (lensL b o f)) ∧ Below w.heap.size w w' := by
  have hl := hb.len8
  have HL := Lib.hid hl; clear hl
  obtain ⟨Z, hZ⟩ : ∃ Z, facT b o 0 f = Z := ⟨_, rfl⟩
  unfold lensL
  rw [hZ]
  have HZ := Lib.hid hZ; clear hZ
  have HO := Lib.hid ho; clear ho
  go_enter Try.func10, Try.ntmps10
  go_wp2_with fail
  go_loopg [5, 6] (n - f) (fun k v5 v6 wr => ∃ (i : Nat) (ts : List Tok) (a : Option Addr) (c : Nat), f ≤ i ∧ i ≤ n ∧ n - i = k ∧ v5 = .slice a ts.length c ∧ v6 = .int .i64 (i : Int) ∧ ts.length ≤ i ∧ Hid (ts ++ facT b o 0 i = Z) ∧ Below w.heap.size w wr ∧ Own wr 3 1 w.heap.size a ts.length c (I64 (ts.map (·.len))))
  case atStart => exact ⟨f, [], none, 0, Nat.le_refl _, hf, rfl, rfl, rfl, Nat.zero_le _, HZ, Below.refl _ _, Own.nil _ _ _ _⟩
  case round =>
    obtain ⟨i, ts, a, c, hfi, hin, rfl, rfl, rfl, hti, hts, bw, ow⟩ := hrel
    rename World => wr
    by_cases hlt : i < n
    · have hbr := hb.below bw
      have hlo := refLongest_law wr ad n cap b hbr hn i hin
      have hbest := lng_best HO.out (i := i) (by rw [HL.out]; exact hlt)
      have hrp := lng_rp HO.out 0 (i := i) (by rw [HL.out]; exact hlt)
      have hrepT := facT_rep b o 0 i (by rw [HL.out]; exact hlt)
      have hlitT := facT_lit b o 0 i (by rw [HL.out]; exact hlt)
      generalize bestL b i = m at *
      by_cases hm : m < 3
      · rw [if_pos hm] at hbest
        have hst := hlitT hbest
        have HST := Lib.hid hst
        have hm' : (m : Int) < 3 := by omega
        clear hlitT hrepT hrp hbest hst
        go_wp2_with fail
        refine hlo.mono ?_
        rintro e w2 ⟨rfl, b2⟩
        have b3 := bw.trans (b2.mono bw.size)
        have ow2 := ow.below b2
        clear ow hlo
        go_wp2_with (refine wpList_push rfl _ _ _ rfl tI rfl rfl ow2 (ys := [.int .i64 0]) rfl (by simp [Value.oneCell']) (by unfold maxLen; omega) (by omega) b3.size ?_; intro a4 c4 w4 o4 g4 n4)
        have b4 := Own.grown b3 ow2 g4 b3.size (Nat.le_refl _)
        go_roundg (n - (i + 1))
        case measure => omega
        case rel => exact ⟨i + 1, ts ++ [⟨0, 0, at8 b i⟩], a4, c4, by omega, by omega, rfl, by simp, by simp, by simp; omega, Lib.hid (by rw [List.append_assoc, ← hts.out, HST.out]; rfl), b4, by simpa [I64] using o4⟩
      · rw [if_neg hm] at hbest
        obtain ⟨D, hD⟩ : ∃ D, (lng b o 0 i).2 = D := ⟨_, rfl⟩
        rw [hbest, hD] at hrepT hrp
        have hst := hrepT (by omega)
        have hin2 : i + m ≤ n := by
          rcases hrp with e | ⟨a1, a2, a3, a4, a5, a6⟩
          · omega
          · have h1 := com_in b (i := i) (i - D) (by rw [HL.out]; omega)
            rw [com_comm, HL.out] at h1; omega
        have hm258 : m ≤ 258 := by rcases hrp with e | ⟨a1, a2, _⟩ <;> omega
        have HST := Lib.hid hst
        have hm' : ¬ (m : Int) < 3 := by omega
        clear hlitT hrepT hrp hbest hst hD
        go_wp2_with fail
        refine hlo.mono ?_
        rintro e w2 ⟨rfl, b2⟩
        have b3 := bw.trans (b2.mono bw.size)
        have ow2 := ow.below b2
        clear ow hlo
        go_wp2_with (refine wpList_push rfl _ _ _ rfl tI rfl rfl ow2 (ys := [.int .i64 (m : Int)]) rfl (by simp [Value.oneCell']) (by unfold maxLen; omega) (by omega) b3.size ?_; intro a4 c4 w4 o4 g4 n4)
        have b4 := Own.grown b3 ow2 g4 b3.size (Nat.le_refl _)
        go_roundg (n - (i + m))
        case measure => omega
        case rel => exact ⟨i + m, ts ++ [⟨m, D, 0⟩], a4, c4, by omega, by omega, rfl, by simp, by simp, by simp; omega, Lib.hid (by rw [List.append_assoc, ← hts.out, HST.out]; rfl), b4, by simpa [I64] using o4⟩
    · obtain rfl : i = n := by omega
      have hts2 := hts.out
      rw [facT_end b o 0 i (by rw [HL.out]; exact Nat.le_refl _), List.append_nil] at hts2
      subst hts2
      go_wp2_with fail
      go_ret
      exact ⟨a, c, rfl, ow, bw⟩
end Go.Proofs.Ytnlemaaglbbdnaa
