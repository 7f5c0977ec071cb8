/- front.Get. -/
import Derived.Test.YtindbmfccgeikaaFroF
namespace Go.Proofs.Ytindbmfccgeikaa
set_option linter.unusedSimpArgs false
set_option linter.unusedVariables false
open Go.RowKit

theorem mvd_zero (ys : List UInt8) (h : 0 < ys.length) : mvd ys 0 = ys := by
  cases ys with
  | nil => simp at h
  | cons y t => simp [mvd, at8]
/-- what symbols say, from a list, what is said, and a digit's worth on; m bytes are used -/
def getS (m most : Nat) : List Int → List UInt8 → List UInt8 → Nat → Option (List UInt8)
  | [], _, out, _ => some out
  | s :: t, ys, out, wo =>
    if s < 0 ∨ (m : Int) + 1 < s ∨ decide (s = (m : Int) + 1) ≠ t.isEmpty then none
    else if s = 1 then (if most < out.length + (wo + wo) then none else getS m most t ys (out ++ List.replicate (wo + wo) (at8 ys 0)) (2 * wo))
    else if s = 0 then (if most < out.length + wo then none else getS m most t ys (out ++ List.replicate wo (at8 ys 0)) (2 * wo))
    else if s < (m : Int) + 1 then (if most < out.length + 1 then none else getS m most t (mvd ys (s - 1).toNat) (out ++ [at8 ys (s - 1).toNat]) 1)
    else (if most < out.length then none else getS m most t ys out wo)
def riseB (us : List UInt8) : Bool := (List.range us.length).all fun j => decide (j = 0 ∨ (at8 us (j - 1)).toNat < (at8 us j).toNat)
theorem riseB_iff (us : List UInt8) : riseB us = true ↔ ∀ j, 0 < j → j < us.length → (at8 us (j - 1)).toNat < (at8 us j).toNat := by
  simp only [riseB, List.all_eq_true, List.mem_range, decide_eq_true_eq]
  exact ⟨fun h j h0 h1 => (h j h1).resolve_left (by omega), fun h j h1 => (Nat.eq_zero_or_pos j).imp id fun h0 => h j h0 h1⟩
def getR (us : List UInt8) (ss : List Int) (most : Int) : Except Int (List UInt8) :=
  if us.length = 0 ∨ most < 0 ∨ 900000 < most ∨ riseB us = false then .error 5
  else if ss.length = 0 then .error 2 else match getS us.length most.toNat ss us [] 1 with | none => .error 2 | some out => .ok out
theorem getS_drop {m most : Nat} {ss : List Int} {ys out : List UInt8} {wo i : Nat} {s : Int} (h : i < ss.length) (hs : atI ss i = s) :
    getS m most (ss.drop i) ys out wo =
      if s < 0 ∨ (m : Int) + 1 < s ∨ decide (s = (m : Int) + 1) ≠ decide (i + 1 = ss.length) then none
      else if s = 1 then (if most < out.length + (wo + wo) then none else getS m most (ss.drop (i + 1)) ys (out ++ List.replicate (wo + wo) (at8 ys 0)) (2 * wo))
      else if s = 0 then (if most < out.length + wo then none else getS m most (ss.drop (i + 1)) ys (out ++ List.replicate wo (at8 ys 0)) (2 * wo))
      else if s < (m : Int) + 1 then (if most < out.length + 1 then none else getS m most (ss.drop (i + 1)) (mvd ys (s - 1).toNat) (out ++ [at8 ys (s - 1).toNat]) 1)
      else (if most < out.length then none else getS m most (ss.drop (i + 1)) ys out wo) := by
  rw [List.drop_eq_getElem_cons h, getS]
  have e : ss[i] = s := by rw [← hs]; simp [atI, h, List.getD_eq_getElem?_getD]
  have e2 : (ss.drop (i + 1)).isEmpty = decide (i + 1 = ss.length) := by
    rw [Bool.eq_iff_iff]; simp [List.isEmpty_iff, List.drop_eq_nil_iff]; omega
  rw [e, e2]

def GetPost (w : World) (us : List UInt8) (ss : List Int) (most : Int) (e : Ending) (w' : World) : Prop :=
  ((∃ k, getR us ss most = .error k ∧ e = .returned (.tuple #[.slice none 0 0, .int .i64 k])) ∨
   (∃ out a c, getR us ss most = .ok out ∧ e = .returned (.tuple #[.slice a out.length c, .int .i64 0]) ∧ Own w' 5 1 w.heap.size a out.length c (B8 out) ∧ (out.length : Int) ≤ most)) ∧ Below w.heap.size w w'

set_option maxRecDepth 100000 in
set_option maxHeartbeats 8000000 in
theorem get_law (w : World) (ad : Option Addr) (n cap : Nat) (us : List UInt8) (hu : Rd w 1 ad n cap (B8 us)) (bd : Option Addr) (M cap2 : Nat) (ss : List Int) (hs : Rd w 1 bd M cap2 (I64 ss)) (most : Int) (hn : n ≤ 1000000) (hM : M ≤ 1000000) (hmo : -9223372036854775808 ≤ most ∧ most ≤ 9223372036854775807) :
    Calls Try.prog 13 #[.slice ad n cap, .slice bd M cap2, .int .i64 most] w (GetPost w us ss most) := by
  have hlu := hu.len8
  have hls := hs.lenI
  by_cases h0 : n = 0
  · have hR : getR us ss most = .error 5 := by unfold getR; rw [if_pos (.inl (by omega))]
    subst h0
    clear hlu hls
    go_enter Try.func13, Try.ntmps13
    go_wp2_with fail
    refine bodyPost_ret (results_tmp2 rfl _ _ _) rfl ?_
    exact ⟨.inl ⟨_, hR, rfl⟩, Below.refl _ _⟩
  by_cases h1 : most < 0
  · have hR : getR us ss most = .error 5 := by unfold getR; rw [if_pos (.inr (.inl h1))]
    clear hlu hls
    have hnz : ((n : Int) == 0) = false := beq_eq_false_iff_ne.2 (by omega)
    go_enter Try.func13, Try.ntmps13
    go_wp2_with fail
    refine bodyPost_ret (results_tmp2 rfl _ _ _) rfl ?_
    exact ⟨.inl ⟨_, hR, rfl⟩, Below.refl _ _⟩
  by_cases h2 : 900000 < most
  · have hR : getR us ss most = .error 5 := by unfold getR; rw [if_pos (.inr (.inr (.inl h2)))]
    clear hlu hls
    have hnz : ((n : Int) == 0) = false := beq_eq_false_iff_ne.2 (by omega)
    go_enter Try.func13, Try.ntmps13
    go_wp2_with fail
    refine bodyPost_ret (results_tmp2 rfl _ _ _) rfl ?_
    exact ⟨.inl ⟨_, hR, rfl⟩, Below.refl _ _⟩
  obtain ⟨mo, rfl⟩ : ∃ mo : Nat, most = (mo : Int) := ⟨most.toNat, by omega⟩
  clear hmo
  have hmo9 : mo ≤ 900000 := by omega
  have hnz : ((n : Int) == 0) = false := beq_eq_false_iff_ne.2 (by omega)
  have hR5 : riseB us = false → getR us ss (mo : Int) = .error 5 := fun h => by unfold getR; rw [if_pos (.inr (.inr (.inr h)))]
  have hRn : riseB us = true → (M = 0 → getR us ss (mo : Int) = .error 2) ∧ (M ≠ 0 → getS n mo ss us [] 1 = none → getR us ss (mo : Int) = .error 2) ∧ (∀ out, M ≠ 0 → getS n mo ss us [] 1 = some out → getR us ss (mo : Int) = .ok out) := fun h => by
    have hbad : ¬ (us.length = 0 ∨ (mo : Int) < 0 ∨ 900000 < (mo : Int) ∨ riseB us = false) := by
      rintro (h3 | h3 | h3 | h3)
      · omega
      · omega
      · omega
      · rw [h] at h3; cases h3
    unfold getR
    rw [if_neg hbad, hlu]
    refine ⟨fun h => by rw [if_pos (by omega)], fun h3 h4 => ?_, fun out h3 h4 => ?_⟩
    · rw [if_neg (by omega), Int.toNat_natCast, h4]
    · rw [if_neg (by omega), Int.toNat_natCast, h4]
  have hri := riseB_iff us
  rw [hlu] at hri
  have HLU := Lib.hid hlu; clear hlu
  have HLS := Lib.hid hls; clear hls
  have HR5 := Lib.hid hR5; clear hR5
  have HRN := Lib.hid hRn; clear hRn
  have HRI := Lib.hid hri; clear hri
  go_enter Try.func13, Try.ntmps13
  go_wp2_with fail
  go_loopg [8] (n - 1) (fun k v8 wr => ∃ i : Nat, 1 ≤ i ∧ i ≤ n ∧ n - i = k ∧ v8 = .int .i64 (i : Int) ∧ Hid (∀ j, 0 < j → j < i → (at8 us (j - 1)).toNat < (at8 us j).toNat) ∧ Below w.heap.size w wr)
  case atStart => exact ⟨1, Nat.le_refl _, by omega, rfl, rfl, Lib.hid (fun j h0 h1 => by omega), Below.refl _ _⟩
  case round =>
    obtain ⟨i, hi1, hin, rfl, rfl, hri, bw⟩ := hrel
    rename World => wr
    by_cases hlt : i < n
    · obtain ⟨ne, c1⟩ := (hu.below bw).get8 hlt
      obtain ⟨_, c2⟩ := (hu.below bw).get8 (show i - 1 < n by omega)
      obtain ⟨x, hx⟩ : ∃ x, (at8 us i).toNat = x := ⟨_, rfl⟩
      obtain ⟨y, hy⟩ : ∃ y, (at8 us (i - 1)).toNat = y := ⟨_, rfl⟩
      rw [hx] at c1
      rw [hy] at c2
      obtain ⟨p, hp⟩ : ∃ p, i - 1 = p := ⟨_, rfl⟩
      rw [hp] at c2
      have hp1 : (i : Int) - 1 = (p : Int) := by omega
      have hpn : (p : Int) < (n : Int) := by omega
      have hin2 : (i : Int) < (n : Int) := by omega
      have HX := Lib.hid hx; clear hx
      have HY := Lib.hid hy; clear hy
      have HP := Lib.hid hp; clear hp
      by_cases hxy : y < x
      · have t1 : decide ((x : Int) ≤ (y : Int)) = false := deF (by omega)
        go_upto_region 6 with fail
        (try simp only [List.append])
        refine wp_region_quiet_lit (by kernel_rfl) (by kernel_rfl) ?_
        repeat (go_big_quiet_step (fail))
        refine wpQuiet_nil ?_
        intro _ hw'
        obtain ⟨nq, hw''⟩ := hw'
        subst hw''
        have bn := bDraws bw nq
        clear c1 c2 bw
        generalize wr.drewN nq = w2 at *
        go_wp2_with fail
        go_roundg (n - (i + 1))
        case measure => omega
        case rel => exact ⟨i + 1, by omega, by omega, rfl, by simp, Lib.hid (fun j h0 h1 => by
          by_cases e : j = i
          · rw [e, HX.out, HY.out]; exact hxy
          · exact hri.out j h0 (by omega)), bn⟩
      · have t1 : decide ((x : Int) ≤ (y : Int)) = true := deT (by omega)
        go_upto_region 6 with fail
        (try simp only [List.append])
        refine wp_region_quiet_lit (by kernel_rfl) (by kernel_rfl) ?_
        repeat (go_big_quiet_step (fail))
        refine wpQuiet_nil ?_
        intro _ hw'
        obtain ⟨nq, hw''⟩ := hw'
        subst hw''
        have bn := bDraws bw nq
        clear c1 c2 bw
        generalize wr.drewN nq = w2 at *
        go_wp2_with fail
        refine bodyPost_ret (results_tmp2 rfl _ _ _) rfl ?_
        refine ⟨.inl ⟨_, HR5.out ?_, rfl⟩, bn⟩
        rw [Bool.eq_false_iff]
        intro h
        have := HRI.out.1 h i (by omega) hlt
        rw [HX.out, HY.out] at this
        exact hxy this
    · obtain rfl : n = i := by omega
      obtain ⟨hN0, hNn, hNs⟩ := HRN.out (HRI.out.2 hri.out)
      clear hri HRI HRN HR5 hlt hin hi1
      obtain ⟨a, rfl⟩ : ∃ a, ad = some a := by
        cases ad with
        | none => have h3 := hu.nil rfl; have h4 := hu.ncap; omega
        | some a => exact ⟨a, rfl⟩
      go_wp2_with fail
      refine (mover_law wr a n cap us (hu.below bw) (by omega)).mono ?_
      rintro e w4 ⟨L, R, g, c4, rfl, mv, b4⟩
      have b14 := bw.trans (b4.mono bw.size)
      have hB3 := bw.size
      obtain ⟨B3, hB3e⟩ : ∃ B3, wr.heap.size = B3 := ⟨_, rfl⟩
      rw [hB3e] at mv hB3
      obtain ⟨T, hT⟩ : ∃ T, w4.heap.size = T := ⟨_, rfl⟩
      have hLT := mv.bL.lt
      have hRT := mv.bR.lt
      have hgT := mv.ow.blk rfl
      have hL3 := mv.Llo
      have hR3 := mv.Rlo
      rw [hT] at hLT hRT hgT
      have hT4 : T ≤ w4.heap.size := by omega
      clear b4 bw hB3e hT
      obtain ⟨Z, hZ⟩ : ∃ Z, getS n mo ss us [] 1 = Z := ⟨_, rfl⟩
      rw [hZ] at hNn hNs
      have HZ := Lib.hid hZ; clear hZ
      go_wp2_with fail
      go_loopg [12, 13, 55] M (fun k v12 v13 v55 wr => ∃ (i : Nat) (ys out : List UInt8) (wo : Nat) (a2 : Option Addr) (c2 : Nat), i ≤ M ∧ M - i = k ∧ v12 = .slice a2 out.length c2 ∧ v13 = .int .i64 (wo : Int) ∧ v55 = .int .i64 (i : Int) ∧ 1 ≤ wo ∧ wo ≤ 2000000 ∧ out.length ≤ mo ∧ Hid (getS n mo (ss.drop i) ys out wo = Z) ∧ Hid (ys.length = n) ∧ Below w.heap.size w wr ∧ T ≤ wr.heap.size ∧ Mov wr B3 L R g n c4 ys ∧ Own wr 5 1 T a2 out.length c2 (B8 out))
      case atStart => exact ⟨0, us, [], 1, none, 0, Nat.zero_le _, rfl, rfl, rfl, rfl, by omega, by omega, Nat.zero_le _, Lib.hid (by rw [List.drop_zero, HZ.out]), HLU, b14, hT4, mv, Own.nil _ _ _ _⟩
      case round =>
        clear mv b14 hT4
        obtain ⟨i, ys, out, wo, a2, c2, hiM, rfl, rfl, rfl, rfl, hw1, hw2, hout, hZi, hyl, bw, hTr, mv, os⟩ := hrel
        rename World => wr
        by_cases hlt : i < M
        · obtain ⟨nb, cs⟩ := (hs.below bw).getI hlt
          obtain ⟨s, hsx⟩ : ∃ s, atI ss i = s := ⟨_, rfl⟩
          rw [hsx] at cs
          have hds := getS_drop (m := n) (most := mo) (ys := ys) (out := out) (wo := wo) (by rw [HLS.out]; exact hlt) hsx
          rw [HLS.out] at hds
          have HDS := Lib.hid hds; clear hds
          clear hsx
          have hiM2 : (i : Int) < (M : Int) := by omega
          by_cases s0 : s < 0
          · skip
            go_wp2_with fail
            refine bodyPost_ret (results_tmp2 rfl _ _ _) rfl ?_
            refine ⟨.inl ⟨_, hNn (by omega) ?_, rfl⟩, bw⟩
            rw [← hZi.out, HDS.out, if_pos (.inl s0)]
          by_cases s1 : (n : Int) + 1 < s
          · skip
            go_wp2_with fail
            refine bodyPost_ret (results_tmp2 rfl _ _ _) rfl ?_
            refine ⟨.inl ⟨_, hNn (by omega) ?_, rfl⟩, bw⟩
            rw [← hZi.out, HDS.out, if_pos (.inr (.inl s1))]
          by_cases s2 : s = (n : Int) + 1
          · by_cases s3 : i + 1 = M
            · have t4 : ((i : Int) == (M : Int) - 1) = true := by rw [beq_iff_eq]; omega
              have t5 : ((n : Int) + 1 == 1) = false := beq_eq_false_iff_ne.2 (by omega)
              have t6 : ((n : Int) + 1 == 0) = false := beq_eq_false_iff_ne.2 (by omega)
              subst s2
              go_wp2_with fail
              go_roundg (M - (i + 1))
              case measure => omega
              case rel =>
                refine ⟨i + 1, ys, out, wo, a2, c2, by omega, rfl, rfl, rfl, by simp, hw1, hw2, hout, Lib.hid ?_, hyl, bw, hTr, mv, os⟩
                rw [← hZi.out, HDS.out, if_neg (by rintro (h | h | h); omega; omega; exact h (by simp [s3])), if_neg (by omega), if_neg (by omega), if_neg (by omega), if_neg (by omega)]
            · have t4 : ((i : Int) == (M : Int) - 1) = false := beq_eq_false_iff_ne.2 (by omega)
              subst s2
              go_wp2_with fail
              refine bodyPost_ret (results_tmp2 rfl _ _ _) rfl ?_
              refine ⟨.inl ⟨_, hNn (by omega) ?_, rfl⟩, bw⟩
              rw [← hZi.out, HDS.out, if_pos (.inr (.inr (by simp [s3])))]
          · by_cases s3 : i + 1 = M
            · have t3 : (s == (n : Int) + 1) = false := beq_eq_false_iff_ne.2 s2
              have t4 : ((i : Int) == (M : Int) - 1) = true := by rw [beq_iff_eq]; omega
              go_wp2_with fail
              refine bodyPost_ret (results_tmp2 rfl _ _ _) rfl ?_
              refine ⟨.inl ⟨_, hNn (by omega) ?_, rfl⟩, bw⟩
              rw [← hZi.out, HDS.out, if_pos (.inr (.inr (by simp [s2, s3])))]
            · have t3 : (s == (n : Int) + 1) = false := beq_eq_false_iff_ne.2 s2
              have t4 : ((i : Int) == (M : Int) - 1) = false := beq_eq_false_iff_ne.2 (by omega)
              have hb0 : ¬ (s < 0 ∨ (n : Int) + 1 < s ∨ decide (s = (n : Int) + 1) ≠ decide (i + 1 = M)) := by rintro (h | h | h); omega; omega; exact h (by simp [s2, s3])
              rw [if_neg hb0] at HDS
              clear hb0
              by_cases s4 : s = 1
              · subst s4
                obtain ⟨N, hN⟩ : ∃ N, wo + wo = N := ⟨_, rfl⟩
                have hNi : (wo : Int) + (wo : Int) = (N : Int) := by omega
                rw [if_pos rfl, hN] at HDS
                have hwN : wo ≤ N := by omega
                have hNb : N ≤ 4000000 := by omega
                clear hN
                have hat := at_law wr L g B3 n c4 0 ys mv.bL mv.ow mv.Lg (by omega) (by omega)
                rw [mvd_zero ys (by rw [hyl.out]; omega)] at hat
                obtain ⟨x, hx⟩ : ∃ x, at8 ys 0 = x := ⟨_, rfl⟩
                rw [hx] at hat HDS
                clear hx
                by_cases hov : mo < out.length + N
                · have h9 : (mo : Int) - (out.length : Int) < (N : Int) := by omega
                  go_wp2_with fail
                  refine bodyPost_ret (results_tmp2 rfl _ _ _) rfl ?_
                  refine ⟨.inl ⟨_, hNn (by omega) ?_, rfl⟩, bw⟩
                  rw [← hZi.out, HDS.out, if_pos hov]
                · have h9 : ¬ (mo : Int) - (out.length : Int) < (N : Int) := by omega
                  have h10 : ¬ (mo : Int) < (out.length : Int) := by omega
                  have h11 : (0 : Int) < (N : Int) := by omega
                  go_upto_region 29 with (refine hat.mono ?_; rintro e w5 ⟨rfl, o5, g5⟩)
                  have os5 := os.other g5 (fun z hz e => by have := (os.blk hz).1; cases e; omega)
                  have hT5 : T ≤ w5.heap.size := Nat.le_trans hTr g5.size
                  have bw5 := mv.grown bw g5 (by omega) bw.size
                  have mv5 := mv.step o5 g5
                  have rd5 := Rd.row w5 5 1 1 (repC x 1) rfl (by decide) (repC_one x 1)
                  have hrep := repeat_law (w5.alloc (.cells (repC x 1).toArray 5)) ⟨w5.heap.size, 0, none⟩ 1 x rd5 N (by omega)
                  have os6 := os5.alloc (.cells (repC x 1).toArray 5)
                  have bw6 := bw5.alloc bw5.size (.cells (repC x 1).toArray 5)
                  have mv6 := mv5.below ((Below.refl _ _).alloc (Nat.le_refl _) (.cells (repC x 1).toArray 5))
                  have hT6 : T ≤ (w5.alloc (.cells (repC x 1).toArray 5)).heap.size := by simp; omega
                  clear mv os bw hTr g5 o5 os5 hT5 hat rd5 bw5 mv5
                  go_wp2_with (first
                    | (refine (show Calls Try.prog 23 #[.slice (some ⟨w5.heap.size, 0, none⟩) 1 1, .int .i64 (N : Int)] (w5.alloc (.cells #[.int .u8 (x.toNat : Int)] 5)) _ from hrep).mono ?_; rintro e w7 ⟨a7, c7, rfl, r7, b7⟩; have os7 := os6.below b7; have hT7 : T ≤ w7.heap.size := Nat.le_trans hT6 b7.size)
                    | (refine wpList_app rfl _ _ _ rfl elB rfl rfl os7 r7 (by unfold maxLen; omega) (by omega) hT7 ?_; intro a8 c8 w8 o8 g8 n8))
                  have bw8 := Own.grown (bw6.trans (b7.mono bw6.size)) os7 g8 (by omega) (by omega)
                  have mv8 := (mv6.below b7).app g8 (fun z e => by have := own_bOf os7 e; exact ⟨by omega, by omega, by omega⟩)
                  have hs8 : T ≤ w8.heap.size := Nat.le_trans hT7 g8.size
                  rw [← repC_B8, B8_app] at o8
                  have hlen : out.length + N = (out ++ List.replicate N x).length := by simp
                  go_roundg (M - (i + 1))
                  case measure => omega
                  case rel => exact ⟨i + 1, ys, out ++ List.replicate N x, 2 * wo, a8, c8, by omega, rfl, by rw [hlen], by simp; omega, by simp, by omega, by omega, by rw [← hlen]; omega, Lib.hid (by rw [← hZi.out, HDS.out, if_neg hov]), hyl, bw8, hs8, mv8, by rw [← hlen]; exact o8⟩
              by_cases s5 : s = 0
              · subst s5
                rw [if_neg (by decide), if_pos rfl] at HDS
                have hat := at_law wr L g B3 n c4 0 ys mv.bL mv.ow mv.Lg (by omega) (by omega)
                rw [mvd_zero ys (by rw [hyl.out]; omega)] at hat
                obtain ⟨x, hx⟩ : ∃ x, at8 ys 0 = x := ⟨_, rfl⟩
                rw [hx] at hat HDS
                clear hx
                by_cases hov : mo < out.length + wo
                · have h9 : (mo : Int) - (out.length : Int) < (wo : Int) := by omega
                  go_wp2_with fail
                  refine bodyPost_ret (results_tmp2 rfl _ _ _) rfl ?_
                  refine ⟨.inl ⟨_, hNn (by omega) ?_, rfl⟩, bw⟩
                  rw [← hZi.out, HDS.out, if_pos hov]
                · have h9 : ¬ (mo : Int) - (out.length : Int) < (wo : Int) := by omega
                  have h10 : ¬ (mo : Int) < (out.length : Int) := by omega
                  have h11 : (0 : Int) < (wo : Int) := by omega
                  go_upto_region 29 with (refine hat.mono ?_; rintro e w5 ⟨rfl, o5, g5⟩)
                  have os5 := os.other g5 (fun z hz e => by have := (os.blk hz).1; cases e; omega)
                  have hT5 : T ≤ w5.heap.size := Nat.le_trans hTr g5.size
                  have bw5 := mv.grown bw g5 (by omega) bw.size
                  have mv5 := mv.step o5 g5
                  have rd5 := Rd.row w5 5 1 1 (repC x 1) rfl (by decide) (repC_one x 1)
                  have hrep := repeat_law (w5.alloc (.cells (repC x 1).toArray 5)) ⟨w5.heap.size, 0, none⟩ 1 x rd5 wo (by omega)
                  have os6 := os5.alloc (.cells (repC x 1).toArray 5)
                  have bw6 := bw5.alloc bw5.size (.cells (repC x 1).toArray 5)
                  have mv6 := mv5.below ((Below.refl _ _).alloc (Nat.le_refl _) (.cells (repC x 1).toArray 5))
                  have hT6 : T ≤ (w5.alloc (.cells (repC x 1).toArray 5)).heap.size := by simp; omega
                  clear mv os bw hTr g5 o5 os5 hT5 hat rd5 bw5 mv5
                  go_wp2_with (first
                    | (refine (show Calls Try.prog 23 #[.slice (some ⟨w5.heap.size, 0, none⟩) 1 1, .int .i64 (wo : Int)] (w5.alloc (.cells #[.int .u8 (x.toNat : Int)] 5)) _ from hrep).mono ?_; rintro e w7 ⟨a7, c7, rfl, r7, b7⟩; have os7 := os6.below b7; have hT7 : T ≤ w7.heap.size := Nat.le_trans hT6 b7.size)
                    | (refine wpList_app rfl _ _ _ rfl elB rfl rfl os7 r7 (by unfold maxLen; omega) (by omega) hT7 ?_; intro a8 c8 w8 o8 g8 n8))
                  have bw8 := Own.grown (bw6.trans (b7.mono bw6.size)) os7 g8 (by omega) (by omega)
                  have mv8 := (mv6.below b7).app g8 (fun z e => by have := own_bOf os7 e; exact ⟨by omega, by omega, by omega⟩)
                  have hs8 : T ≤ w8.heap.size := Nat.le_trans hT7 g8.size
                  rw [← repC_B8, B8_app] at o8
                  have hlen : out.length + wo = (out ++ List.replicate wo x).length := by simp
                  go_roundg (M - (i + 1))
                  case measure => omega
                  case rel => exact ⟨i + 1, ys, out ++ List.replicate wo x, 2 * wo, a8, c8, by omega, rfl, by rw [hlen], by simp; omega, by simp, by omega, by omega, by rw [← hlen]; omega, Lib.hid (by rw [← hZi.out, HDS.out, if_neg hov]), hyl, bw8, hs8, mv8, by rw [← hlen]; exact o8⟩
              obtain ⟨k, hk⟩ : ∃ k : Nat, s = (k : Int) + 1 := ⟨(s - 1).toNat, by omega⟩
              subst hk
              have hkn : k < n := by omega
              have hk1 : 1 ≤ k := by omega
              rw [if_neg s4, if_neg s5, if_pos (by omega), show ((k : Int) + 1 - 1).toNat = k by omega] at HDS
              have t5 : ((k : Int) + 1 == 1) = false := beq_eq_false_iff_ne.2 (by omega)
              have t55 : ((k : Int) == 0) = false := beq_eq_false_iff_ne.2 (by omega)
              have t6 : ((k : Int) + 1 == 0) = false := beq_eq_false_iff_ne.2 (by omega)
              have t7 : (k : Int) < (n : Int) := by omega
              have hat := at_law wr L g B3 n c4 k ys mv.bL mv.ow mv.Lg hkn (by omega)
              have hml := mvd_len ys k (by rw [hyl.out]; exact hkn)
              rw [hyl.out] at hml
              obtain ⟨x, hx⟩ : ∃ x, at8 ys k = x := ⟨_, rfl⟩
              rw [hx] at hat HDS
              have HML := Lib.hid hml; clear hml hx
              go_upto_region 25 with (first
                | (refine hat.mono ?_; rintro e w5 ⟨rfl, o5, g5⟩; have os5 := os.other g5 (fun z hz e => by have := (os.blk hz).1; cases e; omega); have hT5 : T ≤ w5.heap.size := Nat.le_trans hTr g5.size)
                | (refine wpList_push rfl _ _ _ rfl elB rfl rfl os5 (ys := [.int .u8 (x.toNat : Int)]) rfl (by simp [Value.oneCell']) (by unfold maxLen; omega) (by omega) hT5 ?_; intro a8 c8 w8 o8 g8 n8))
              have bw8 := Own.grown (mv.grown bw g5 (by omega) bw.size) os5 g8 (by omega) (by omega)
              have mv8 := (mv.step o5 g5).app g8 (fun z e => by have := own_bOf os5 e; exact ⟨by omega, by omega, by omega⟩)
              have hs8 : T ≤ w8.heap.size := Nat.le_trans hT5 g8.size
              rw [show B8 out ++ [.int .u8 (x.toNat : Int)] = B8 (out ++ [x]) by simp [B8]] at o8
              clear mv os bw hTr g5 o5 os5 hT5 g8 n8 hat
              by_cases hov : mo < out.length + 1
              · have h9 : (mo : Int) - ((out.length : Int) + 1) < 0 := by omega
                go_wp2_with fail
                refine bodyPost_ret (results_tmp2 rfl _ _ _) rfl ?_
                refine ⟨.inl ⟨_, hNn (by omega) ?_, rfl⟩, bw8⟩
                rw [← hZi.out, HDS.out, if_pos hov]
              · have h9 : ¬ (mo : Int) - ((out.length : Int) + 1) < 0 := by omega
                have h10 : ¬ (mo : Int) < (out.length : Int) + 1 := by omega
                go_wp2_with fail
                have hlen : out.length + 1 = (out ++ [x]).length := by simp
                go_roundg (M - (i + 1))
                case measure => omega
                case rel => exact ⟨i + 1, mvd ys k, out ++ [x], 1, a8, c8, by omega, rfl, by rw [hlen], rfl, by simp, by omega, by omega, by rw [← hlen]; omega, Lib.hid (by rw [← hZi.out, HDS.out, if_neg hov]), HML, bw8, hs8, mv8, by rw [← hlen]; exact o8⟩
        · obtain rfl : i = M := by omega
          have hZe := hZi.out
          rw [List.drop_of_length_le (by rw [HLS.out]; exact Nat.le_refl _), getS] at hZe
          by_cases hM0 : i = 0
          · subst hM0
            have hR := hN0 rfl
            clear hNs hNn
            go_wp2_with fail
            refine bodyPost_ret (results_tmp2 rfl _ _ _) rfl ?_
            exact ⟨.inl ⟨_, hR, rfl⟩, bw⟩
          · have hR := hNs out hM0 hZe.symm
            have hM1 : ((i : Int) == 0) = false := beq_eq_false_iff_ne.2 (by omega)
            clear hNs hNn
            go_wp2_with fail
            refine bodyPost_ret (results_tmp2 rfl _ _ _) rfl ?_
            exact ⟨.inr ⟨out, a2, c2, hR, rfl, os.lower (by omega), by omega⟩, bw⟩
end Go.Proofs.Ytindbmfccgeikaa
