/- The document's Least, Common and Heights: the walks. -/
import Derived.Test.YtlokjgmfhbgmcaaLcpA
namespace Go.Proofs.Ytlokjgmfhbgmcaa
set_option linter.unusedSimpArgs false
set_option linter.unusedVariables false
open Go.RowKit

set_option maxRecDepth 100000 in
set_option maxHeartbeats 4000000 in
theorem refLeast_law (w : World) (ad : Option Addr) (n cap : Nat) (xs : List Int) (hx : Rd w 1 ad n cap (I64 xs)) (hn : n ≤ 100000) (p q : Int) :
    Calls Try.prog 14 #[.slice ad n cap, .int .i64 p, .int .i64 q] w fun e w' => e = .returned (.tuple #[.int .i64 (cmmI xs p q).1, .int .i64 (cmmI xs p q).2]) ∧ Below w.heap.size w w' := by
  have hl := hx.lenI
  have HL := Lib.hid hl; clear hl
  by_cases hbad : p < 0 ∨ q ≤ p ∨ (n : Int) ≤ q
  · have hc : cmmI xs p q = (0, 5) := by rw [cmmI, HL.out, if_pos hbad]
    rw [hc]
    by_cases h1 : p < 0
    · go_enter Try.func14, Try.ntmps14
      go_wp2
      refine bodyPost_ret (results_tmp2 rfl _ _ _) rfl ?_
      exact ⟨rfl, Below.refl _ _⟩
    by_cases h2 : q ≤ p
    · go_enter Try.func14, Try.ntmps14
      go_wp2
      refine bodyPost_ret (results_tmp2 rfl _ _ _) rfl ?_
      exact ⟨rfl, Below.refl _ _⟩
    have h3 : (n : Int) ≤ q := by omega
    go_enter Try.func14, Try.ntmps14
    go_wp2
    refine bodyPost_ret (results_tmp2 rfl _ _ _) rfl ?_
    exact ⟨rfl, Below.refl _ _⟩
  · obtain ⟨a, rfl⟩ : ∃ a : Nat, p = (a : Int) := ⟨p.toNat, by omega⟩
    obtain ⟨c, rfl⟩ : ∃ c : Nat, q = (c : Int) := ⟨q.toNat, by omega⟩
    have hac : a < c := by omega
    have hcn : c < n := by omega
    have hcm : cmmI xs a c = (lstI xs (a + 1) (c - a - 1), 0) := by rw [cmmI, HL.out, if_neg hbad, Int.toNat_natCast, Int.toNat_natCast]
    have HC := Lib.hid hcm; clear hcm
    have h1 : ¬ (a : Int) < 0 := by omega
    have h2 : ¬ (c : Int) ≤ (a : Int) := by omega
    have h3 : ¬ (n : Int) ≤ (c : Int) := by omega
    clear hbad
    obtain ⟨nx, cx⟩ := hx.getI (k := a + 1) (by omega)
    obtain ⟨a1, ha1⟩ : ∃ a1, a + 1 = a1 := ⟨_, rfl⟩
    have e1 : (a : Int) + 1 = (a1 : Int) := by omega
    have w1 : IntKind.i64.wrap (a1 : Int) = (a1 : Int) := IntWalk.i64_in _ (by omega)
    have b1 : (a1 : Int) < (n : Int) := by omega
    have l0 : lstI xs a1 0 = atI xs a1 := rfl
    rw [ha1] at cx HC
    have HA1 := Lib.hid ha1; clear ha1
    rw [← l0] at cx
    clear l0
    generalize hm0 : lstI xs a1 0 = m0 at *
    have HM0 := Lib.hid hm0; clear hm0
    go_enter Try.func14, Try.ntmps14
    go_wp2_with fail
    clear cx
    go_loopg [8, 9] (c + 1 - a1) (fun k m i wr => ∃ j x : Nat, j + a1 = x ∧ x ≤ c + 1 ∧ k = c + 1 - x ∧ m = .int .i64 (lstI xs a1 (j - 1)) ∧ i = .int .i64 (x : Int) ∧ w = wr)
    case atStart => exact ⟨0, a1, by omega, by omega, rfl, by rw [HM0.out], rfl, rfl⟩
    case round =>
      obtain ⟨j, x, hjx, hxc, rfl, rfl, rfl, rfl⟩ := hrel
      by_cases hlt : x ≤ c
      · obtain ⟨n1, c1⟩ := hx.getI (k := x) (by omega)
        have hs : lstI xs a1 j = if atI xs x < lstI xs a1 (j - 1) then atI xs x else lstI xs a1 (j - 1) := by
          cases j with
          | zero => simp [lstI, ← hjx]
          | succ j =>
            simp only [lstI, Nat.add_sub_cancel]
            rw [show a1 + (j + 1) = x by omega]
            simp only [Int.min_def]; split <;> split <;> omega
        have hx1 : (x : Int) ≤ (c : Int) := by omega
        have hx2 : (x : Int) < (n : Int) := by omega
        generalize lstI xs a1 (j - 1) = m at *
        generalize atI xs x = y at *
        have HJ := Lib.hid hjx; clear hjx
        by_cases hxm : y < m
        · rw [if_pos hxm] at hs
          have HS := Lib.hid hs; clear hs
          go_wp2_with fail
          go_roundg (c + 1 - (x + 1))
          case measure => omega
          case rel => exact ⟨j + 1, x + 1, by have := HJ.out; omega, by omega, rfl, by rw [Nat.add_sub_cancel, HS.out], by simp, rfl⟩
        · rw [if_neg hxm] at hs
          have HS := Lib.hid hs; clear hs
          go_wp2_with fail
          go_roundg (c + 1 - (x + 1))
          case measure => omega
          case rel => exact ⟨j + 1, x + 1, by have := HJ.out; omega, by omega, rfl, by rw [Nat.add_sub_cancel, HS.out], by simp, rfl⟩
      · have hx1 : ¬ (x : Int) ≤ (c : Int) := by omega
        have hj : j - 1 = c - a - 1 := by have := HA1.out; omega
        rw [hj]
        go_wp2_with fail
        refine bodyPost_ret (results_tmp2 rfl _ _ _) rfl ?_
        exact ⟨by rw [HC.out]; rfl, Below.refl _ _⟩

set_option maxRecDepth 100000 in
set_option maxHeartbeats 4000000 in
theorem refCommon_law (w : World) (ad : Option Addr) (n cap : Nat) (b : List UInt8) (hb : Rd w 1 ad n cap (B8 b)) (hn : n ≤ 100000) (i j : Nat) (hi : i ≤ n) (hj : j ≤ n) :
    Calls Try.prog 16 #[.slice ad n cap, .int .i64 (i : Int), .int .i64 (j : Int)] w fun e w' => e = .returned (.int .i64 (com b i j : Int)) ∧ Below w.heap.size w w' := by
  have hl := hb.len8
  have HL := Lib.hid hl; clear hl
  go_enter Try.func16, Try.ntmps16
  go_wp2_with fail
  go_loopg [7] (n + 1) (fun k y wr => ∃ m : Nat, m ≤ n ∧ k = n + 1 - m ∧ y = .int .i64 (m : Int) ∧ Below w.heap.size w wr ∧ Hid (∀ s, s < m → onB b (i + s) (j + s) = true))
  case atStart => exact ⟨0, Nat.zero_le _, by simp, rfl, Below.refl _ _, Lib.hid fun s hs => by omega⟩
  case round =>
    obtain ⟨m, hm, rfl, rfl, hbr, hs⟩ := hrel
    rename World => wr
    obtain ⟨x, hx⟩ : ∃ x, i + m = x := ⟨_, rfl⟩
    obtain ⟨y, hy⟩ : ∃ y, j + m = y := ⟨_, rfl⟩
    have e1 : (i : Int) + (m : Int) = (x : Int) := by omega
    have e2 : (j : Int) + (m : Int) = (y : Int) := by omega
    have w1 : IntKind.i64.wrap (x : Int) = (x : Int) := IntWalk.i64_in _ (by omega)
    have w2 : IntKind.i64.wrap (y : Int) = (y : Int) := IntWalk.i64_in _ (by omega)
    have HX := Lib.hid hx; clear hx
    have HY := Lib.hid hy; clear hy
    have fin : onB b x y = false → com b i j = m := fun h => Com.eq ⟨hs.out, by rw [HX.out, HY.out]; exact h⟩
    have FIN := Lib.hid fin; clear fin
    have HBR := Lib.hid hbr
    by_cases h1 : x < n
    · have t1 : decide ((x : Int) < (n : Int)) = true := deT (by omega)
      by_cases h2 : y < n
      · have t2 : decide ((y : Int) < (n : Int)) = true := deT (by omega)
        obtain ⟨nx, cx⟩ := (hb.below hbr).get8 h1
        obtain ⟨ny, cy⟩ := (hb.below hbr).get8 h2
        obtain ⟨u, hu⟩ : ∃ u, (at8 b x).toNat = u := ⟨_, rfl⟩
        obtain ⟨v, hv⟩ : ∃ v, (at8 b y).toNat = v := ⟨_, rfl⟩
        rw [hu] at cx; rw [hv] at cy
        have HU := Lib.hid hu; clear hu
        have HV := Lib.hid hv; clear hv
        have hx2 : (x : Int) < (n : Int) := by omega
        have hy2 : (y : Int) < (n : Int) := by omega
        go_upto_region 2 with fail
        by_cases huv : u = v
        · have t3 : (((u : Nat) : Int) == ((v : Nat) : Int)) = true := by rw [huv]; simp
          (try simp only [List.append])
          refine wp_region_quiet_lit (by kernel_rfl) (by kernel_rfl) ?_
          repeat (go_big_quiet_step (fail))
          refine wpQuiet_nil ?_
          intro _ hw'
          obtain ⟨nq, hw''⟩ := hw'
          subst hw''
          go_wp2_with fail
          have hmn : m < n := by have := HX.out; omega
          go_roundg (n + 1 - (m + 1))
          case measure => omega
          case rel => exact ⟨m + 1, by omega, rfl, by simp, bDraws HBR.out _, Lib.hid fun s hs' => by
            by_cases e : s = m
            · rw [e, HX.out, HY.out, onB_iff, HL.out]
              exact ⟨h1, h2, UInt8.toNat_inj.1 (by rw [HU.out, HV.out, huv])⟩
            · exact hs.out s (by omega)⟩
        · have t3 : (((u : Nat) : Int) == ((v : Nat) : Int)) = false := by rw [beq_eq_false_iff_ne]; omega
          (try simp only [List.append])
          refine wp_region_quiet_lit (by kernel_rfl) (by kernel_rfl) ?_
          repeat (go_big_quiet_step (fail))
          refine wpQuiet_nil ?_
          intro _ hw'
          obtain ⟨nq, hw''⟩ := hw'
          subst hw''
          go_wp2_with fail
          go_ret
          refine ⟨?_, bDraws HBR.out _⟩
          rw [FIN.out (by
            rw [Bool.eq_false_iff]; intro h
            obtain ⟨_, _, h3⟩ := (onB_iff _ _ _).1 h
            exact huv (by rw [← HU.out, ← HV.out, h3]))]
          rfl
      · have t2 : decide ((y : Int) < (n : Int)) = false := deF (by omega)
        go_upto_region 2 with fail
        (try simp only [List.append])
        refine wp_region_quiet_lit (by kernel_rfl) (by kernel_rfl) ?_
        repeat (go_big_quiet_step (fail))
        refine wpQuiet_nil ?_
        intro _ hw'
        obtain ⟨nq, hw''⟩ := hw'
        subst hw''
        go_wp2_with fail
        go_ret
        refine ⟨?_, bDraws HBR.out _⟩
        rw [FIN.out (by rw [Bool.eq_false_iff]; intro h; have := ((onB_iff _ _ _).1 h).2.1; rw [HL.out] at this; omega)]
        rfl
    · have t1 : decide ((x : Int) < (n : Int)) = false := deF (by omega)
      go_upto_region 2 with fail
      (try simp only [List.append])
      refine wp_region_quiet_lit (by kernel_rfl) (by kernel_rfl) ?_
      repeat (go_big_quiet_step (fail))
      refine wpQuiet_nil ?_
      intro _ hw'
      obtain ⟨nq, hw''⟩ := hw'
      subst hw''
      go_wp2_with fail
      go_ret
      refine ⟨?_, bDraws HBR.out _⟩
      rw [FIN.out (by rw [Bool.eq_false_iff]; intro h; have := ((onB_iff _ _ _).1 h).1; rw [HL.out] at this; omega)]
      rfl

theorem cell_far {w : World} {a p : Addr} {v u : Value} (h : a.block ≠ p.block) (hc : w.cell? a = some u) : (w.setCell p v).cell? a = some u := by
  rw [World.cell?_of_block (w := w) (Below.heap_setCell w p v a.block h)]; exact hc
/-- what Heights answers -/
theorem hgt_len2 (b : List UInt8) (o : List Nat) : (hgtL b o).length = b.length := rowN_len _ _

set_option maxRecDepth 100000 in
set_option maxHeartbeats 4000000 in
theorem refHeights_law (w : World) (ad : Option Addr) (n cap : Nat) (b : List UInt8) (hb : Rd w 1 ad n cap (B8 b)) (hn : n ≤ 100000) (rd : Option Addr) (m rc : Nat) (xs : List Int) (hx : Rd w 1 rd m rc (I64 xs)) (o : List Nat) (ho : Ordered b false o) :
    Calls Try.prog 10 #[.slice ad n cap, .slice rd m rc] w fun e w' => Below w.heap.size w w' ∧
      ((xs ≠ o.map (fun c : Nat => (c : Int)) ∧ e = .returned (.tuple #[.slice none 0 0, .int .i64 5])) ∨
       (xs = o.map (fun c : Nat => (c : Int)) ∧ ∃ g, e = .returned (.tuple #[.slice (some ⟨g, 0, none⟩) n n, .int .i64 0]) ∧ Own w' 3 1 w.heap.size (some ⟨g, 0, none⟩) n n (N64 (hgtL b o)))) := by
  have hl := hb.len8
  have HL := Lib.hid hl; clear hl
  obtain ⟨B, hB⟩ : ∃ B, w.heap.size = B := ⟨_, rfl⟩
  have HB := Lib.hid hB; clear hB
  go_enter Try.func10, Try.ntmps10
  go_wp2_with fail
  refine (orderE_law _ _ _ _ b hb hn).mono ?_
  rintro e w2 ⟨a2, k2, o2, rfl, own2, ord2, b2⟩
  obtain rfl := ho.unique ord2
  clear ord2
  have hx2 := hx.below b2
  have hr2 := own2.rd
  rw [N64_I64] at hr2
  go_wp2_with fail
  refine (same_law _ _ _ _ _ _ _ _ _ hx2 hr2).mono ?_
  rintro e w3 ⟨rfl, b3⟩
  have c3 := b2.trans (b3.mono b2.size)
  clear hr2 hx2 own2 b2 b3
  by_cases heq : xs = o.map (fun c : Nat => (c : Int))
  · have hd : decide (xs = o.map (fun c : Nat => (c : Int))) = true := decide_eq_true heq
    rw [hd]
    clear hd
    have hmn : m = n := by
      have h1 := hx.lenI
      rw [heq, List.length_map, ho.len, HL.out] at h1
      exact h1.symm
    subst hmn
    rw [heq, ← N64_I64] at hx
    have HEQ := Lib.hid heq; clear heq
    have HO := Lib.hid ho; clear ho
    have h63 : m ≤ maxLen := by unfold maxLen; omega
    have H1 := Lib.hid h63; clear h63
    have hby : 8 * m ≤ 281474976710656 := by omega
    have H2 := Lib.hid hby; clear hby
    obtain ⟨Q, hQ⟩ : ∃ Q, w3.heap.size = Q := ⟨_, rfl⟩
    have hBQ : B ≤ Q := by have := c3.size; rw [HB.out, hQ] at this; exact this
    go_wp2_with (refine wpList_mk rfl _ _ _ rfl tI rfl rfl m rfl rfl rfl rfl H1.out H2.out ?_; intro w4 o4 b4 s4; have S4 := Lib.hid s4; clear s4)
    rw [N64_zeros] at o4
    rw [hQ] at o4 b4 S4
    have c4 : Below B w w4 := by have := c3.trans (b4.mono (by rw [HB.out]; exact hBQ)); rw [HB.out] at this; exact this
    have hs4 : Q < w4.heap.size := by rw [S4.out]; omega
    clear hQ b4 c3
    go_loopg [7] m (fun k i wr => ∃ p : Nat, 1 ≤ p ∧ p ≤ m + 1 ∧ k = m + 1 - p ∧ i = .int .i64 (p : Int) ∧ Below B w wr ∧ Q < wr.heap.size ∧ Own wr 3 1 Q (some ⟨Q, 0, none⟩) m m (N64 (rowN (fun q => if q < p then hgt b o q else 0) m)))
    case atStart =>
      refine ⟨1, Nat.le_refl _, by omega, rfl, rfl, c4, hs4, ?_⟩
      have e : List.replicate m 0 = rowN (fun q => if q < 1 then hgt b o q else 0) m := by
        apply atN_ext (by simp [rowN_len])
        intro j hj
        simp at hj
        rw [atN_row _ _ _ hj]
        by_cases h0 : j = 0
        · subst h0; simp [atN, hj, hgt]
        · rw [if_neg (by omega)]; simp [atN, hj]
      rw [← e]; exact o4
    case round =>
      clear o4 c4 hs4
      obtain ⟨p, hp1, hp2, rfl, rfl, hbr, hQr, oo⟩ := hrel
      rename World => wr
      have hbw : Below w.heap.size w wr := by rw [HB.out]; exact hbr
      by_cases hlt : p < m
      · obtain ⟨q, hq⟩ : ∃ q, p = q + 1 := ⟨p - 1, by omega⟩
        have hqm : q < m := by omega
        have hsub : (p : Int) - 1 = (q : Int) := by omega
        have hw1 : IntKind.i64.wrap (q : Int) = (q : Int) := IntWalk.i64_in _ (by omega)
        have hpm : (p : Int) < (m : Int) := by omega
        have hqm2 : (q : Int) < (m : Int) := by omega
        have rx := hx.below hbw
        obtain ⟨nx, cq⟩ := rx.getN hqm
        obtain ⟨_, cp⟩ := rx.getN hlt
        have l1 := HO.out.ord.lt (p := q) (by rw [HL.out]; exact hqm)
        have l2 := HO.out.ord.lt (p := p) (by rw [HL.out]; exact hlt)
        rw [HL.out] at l1 l2
        have hst := rowN_set (fun r => if r < p then hgt b o r else 0) (fun r => if r < p + 1 then hgt b o r else 0) m p (com b (atN o q) (atN o p)) (fun k hk => by
          by_cases e : k = p
          · subst e; simp [hgt, hq]
          · by_cases e' : k < p
            · simp [e, e', Nat.lt_succ_of_lt e']
            · have : ¬ k < p + 1 := by omega
              simp [e, e', this])
        generalize atN o q = u at *
        generalize atN o p = v at *
        have hbl := HL.out
        have hrb := (hb.below hbw).drew
        have hcal := refCommon_law wr.drew ad m cap b hrb hn u v (by omega) (by omega)
        have HCAL := Lib.hid hcal; clear hcal
        have HST := Lib.hid hst; clear hst
        have hP := Lib.hid hq; clear hq
        have hqp : q < p := by have := hP.out; omega
        have od := oo.drew
        have cud : wr.drew.cell? (sAt rd q) = some (.int .i64 (u : Int)) := cq
        have cvd : wr.drew.cell? (sAt rd p) = some (.int .i64 (v : Int)) := cp
        have hblk : ∀ a, rd = some a → a.block < Q := fun a ha => by
          have h := (hx.getN hqm).2
          have := World.block_lt_of_cell? w _ h
          subst ha
          rw [sAt_some, add_block, HB.out] at this; omega
        have hfar : ∀ j, (sAt rd j).block ≠ Q := fun j => by
          cases hrd : rd with
          | none => exact absurd hrd nx
          | some a => rw [sAt_some, add_block]; have := hblk a hrd; omega
        have HFAR := Lib.hid hfar; clear hfar
        have bd : Below Q wr wr.drew := (Below.refl _ _).drew
        obtain ⟨cc, hcc⟩ : ∃ cc, com b u v = cc := ⟨_, rfl⟩
        have hcn : cc ≤ 100000 := by have := com_le b u v; omega
        rw [hcc] at HCAL HST
        clear hcc hblk rx oo hrb
        obtain ⟨cz, fz⟩ := od.getN hlt
        have czs : (wr.drew.cell? ⟨Q, p, none⟩).isSome = true := by rw [cz]; rfl
        go_upto_region 7 with fail
        go_region_held3 (fun w' => w'.cell? (sAt rd q) = some (.int .i64 (u : Int)) ∧ w'.cell? (sAt rd p) = some (.int .i64 (v : Int)) ∧ (w'.cell? ⟨Q, p, none⟩).isSome ∧ w'.frozen? ⟨Q, p, none⟩ = false)
          (first | (exact ⟨cud, cvd, czs, fz⟩) | (exact ⟨cell_below cud b9, cell_below cvd b9, by rw [c9]; rfl, f9⟩) | (exact ⟨cell_far (HFAR.out q) (cell_below cud b9), cell_far (HFAR.out p) (cell_below cvd b9), by rw [((o9.setN p cc).getN hlt).1]; rfl, ((o9.setN p cc).getN hlt).2⟩) | go_keep)
          (first | (go_at_call 16; refine HCAL.out.mono ?_; rintro e w9 ⟨rfl, b9⟩; have o9 := od.below b9; obtain ⟨c9, f9⟩ := o9.getN hlt))
        all_goals
          have b10 : Below Q wr w9 := bd.trans (b9.mono (by simpa using Nat.le_of_lt hQr))
          have o10 := o9.setN p cc
          rw [HST.out] at o10
          have hs9 : Q < w9.heap.size := (o9.blk rfl).2
          have OT := Lib.hid o10; clear o10
          have BT := Lib.hid b10; clear b10
          clear o9
          go_wp2_with fail
          go_roundg (m + 1 - (p + 1))
          case measure => omega
          case rel => exact ⟨p + 1, by omega, by omega, rfl, by simp, (hbr.trans (BT.out.mono (by omega))).setCell (by simp; omega) _, by simpa using hs9, OT.out⟩
      · have e : rowN (fun q => if q < p then hgt b o q else 0) m = hgtL b o := by
          rw [hgtL, HL.out]
          exact rowN_congr _ _ _ fun k hk => by rw [if_pos (by omega)]
        rw [e] at oo
        have OO := Lib.hid oo; clear oo e
        have hnp : ¬ (p : Int) < (m : Int) := by omega
        go_wp2_with fail
        refine bodyPost_ret (results_tmp2 rfl _ _ _) rfl ?_
        exact ⟨hbw, .inr ⟨HEQ.out, Q, rfl, OO.out.lower (by rw [HB.out]; exact hBQ)⟩⟩
  · have hd : decide (xs = o.map (fun c : Nat => (c : Int))) = false := decide_eq_false heq
    rw [hd]
    have HEQ := Lib.hid heq; clear heq hd
    go_wp2_with fail
    refine bodyPost_ret (results_tmp2 rfl _ _ _) rfl ?_
    exact ⟨c3, .inl ⟨HEQ.out, rfl⟩⟩
end Go.Proofs.Ytlokjgmfhbgmcaa
