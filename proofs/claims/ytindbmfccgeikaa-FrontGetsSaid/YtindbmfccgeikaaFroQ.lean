/- The document's Get. -/
import Derived.Test.YtindbmfccgeikaaFroM
namespace Go.Proofs.Ytindbmfccgeikaa
set_option linter.unusedSimpArgs false
set_option linter.unusedVariables false
open Go.RowKit

/-- inside a run of digits: j symbols are read, N bytes are in it -/
def GSt (E : Prop) (m mo : Nat) (ss : List Int) (Z : Option (List UInt8)) (ys out : List UInt8) (j N wo : Nat) : Prop :=
  (mo < out.length + N ∧ E) ∨ (j = ss.length ∧ E) ∨ (j < ss.length ∧ out.length + N ≤ mo ∧ getS m mo (ss.drop j) ys (out ++ List.replicate N (at8 ys 0)) wo = Z)
theorem GSt.step {E : Prop} {m mo : Nat} {ss : List Int} {Z : Option (List UInt8)} {ys out : List UInt8} {j N wo : Nat} (hE : Z = none → E) (hm : 1 ≤ m) (h : GSt E m mo ss Z ys out j N wo) (hj : j < ss.length) (d : Nat) (hd : d ≤ 1) (hs : atI ss j = (d : Int)) :
    GSt E m mo ss Z ys out (j + 1) (N + wo * (d + 1)) (2 * wo) := by
  rcases h with ⟨h1, h2⟩ | ⟨h1, h2⟩ | ⟨h1, h2, h3⟩
  · exact .inl ⟨by omega, h2⟩
  · omega
  · rw [getS_drop hj hs] at h3
    by_cases hl : j + 1 = ss.length
    · rw [if_pos (.inr (.inr (by simp [hl]; omega)))] at h3
      exact .inr (.inl ⟨hl, hE h3.symm⟩)
    · rw [if_neg (by rintro (h | h | h); omega; omega; exact h (by simp [hl]; omega))] at h3
      have hd2 : d = 0 ∨ d = 1 := by omega
      rcases hd2 with rfl | rfl
      · rw [if_neg (by decide), if_pos (by rfl)] at h3
        by_cases hov : mo < (out ++ List.replicate N (at8 ys 0)).length + wo
        · rw [if_pos hov] at h3
          refine .inl ⟨?_, hE h3.symm⟩
          simp at hov; omega
        · rw [if_neg hov, List.append_assoc, List.replicate_append_replicate] at h3
          refine .inr (.inr ⟨by omega, ?_, by rw [Nat.zero_add, Nat.mul_one]; exact h3⟩)
          simp at hov; omega
      · rw [if_pos (by rfl)] at h3
        by_cases hov : mo < (out ++ List.replicate N (at8 ys 0)).length + (wo + wo)
        · rw [if_pos hov] at h3
          refine .inl ⟨?_, hE h3.symm⟩
          simp at hov; omega
        · rw [if_neg hov, List.append_assoc, List.replicate_append_replicate] at h3
          refine .inr (.inr ⟨by omega, ?_, by rw [show wo * (1 + 1) = wo + wo by omega]; exact h3⟩)
          simp at hov; omega
/-- between two rounds -/
def GIn (E : Prop) (m mo : Nat) (ss : List Int) (Z : Option (List UInt8)) (ys out : List UInt8) (i : Nat) : Prop :=
  (i = ss.length ∧ E) ∨ (i < ss.length ∧ ∃ wo, getS m mo (ss.drop i) ys out wo = Z ∧ (wo = 1 ∨ (atI ss i ≠ 0 ∧ atI ss i ≠ 1)))

set_option maxRecDepth 100000 in
set_option maxHeartbeats 8000000 in
theorem rget_law (w : World) (ad : Option Addr) (n cap : Nat) (us : List UInt8) (hu : Rd w 1 ad n cap (B8 us)) (bd : Option Addr) (M cap2 : Nat) (ss : List Int) (hs : Rd w 1 bd M cap2 (I64 ss)) (most : Int) (hn : n ≤ 1000000) (hM : M ≤ 1000000) (hmo : -9223372036854775808 ≤ most ∧ most ≤ 9223372036854775807) (hmo1 : most ≤ 100000 ∨ 900000 < most) :
    Calls Try.prog 14 #[.slice ad n cap, .slice bd M cap2, .int .i64 most] w (GetPost w us ss most) := by
  have hlu := hu.len8
  have hls := hs.lenI
  by_cases h0 : n = 0
  · have hR : getR us ss most = .error 5 := by unfold getR; rw [if_pos (.inl (by omega))]
    subst h0
    clear hlu hls
    go_enter Try.func14, Try.ntmps14
    go_wp2_with fail
    refine bodyPost_ret (results_tmp2 rfl _ _ _) rfl ?_
    exact ⟨.inl ⟨_, hR, rfl⟩, Below.refl _ _⟩
  by_cases h1 : most < 0
  · have hR : getR us ss most = .error 5 := by unfold getR; rw [if_pos (.inr (.inl h1))]
    clear hlu hls
    have hnz : ((n : Int) == 0) = false := beq_eq_false_iff_ne.2 (by omega)
    go_enter Try.func14, Try.ntmps14
    go_wp2_with fail
    refine bodyPost_ret (results_tmp2 rfl _ _ _) rfl ?_
    exact ⟨.inl ⟨_, hR, rfl⟩, Below.refl _ _⟩
  by_cases h2 : 900000 < most
  · have hR : getR us ss most = .error 5 := by unfold getR; rw [if_pos (.inr (.inr (.inl h2)))]
    clear hlu hls
    have hnz : ((n : Int) == 0) = false := beq_eq_false_iff_ne.2 (by omega)
    go_enter Try.func14, Try.ntmps14
    go_wp2_with fail
    refine bodyPost_ret (results_tmp2 rfl _ _ _) rfl ?_
    exact ⟨.inl ⟨_, hR, rfl⟩, Below.refl _ _⟩
  obtain ⟨mo, rfl⟩ : ∃ mo : Nat, most = (mo : Int) := ⟨most.toNat, by omega⟩
  clear hmo
  have hmo9 : mo ≤ 100000 := by omega
  clear hmo1
  have hnz : ((n : Int) == 0) = false := beq_eq_false_iff_ne.2 (by omega)
  have hR5 : riseB us = false → getR us ss (mo : Int) = .error 5 := fun h => by unfold getR; rw [if_pos (.inr (.inr (.inr h)))]
  have hRn : riseB us = true → (M = 0 → getR us ss (mo : Int) = .error 2) ∧ (M ≠ 0 → getS n mo ss us [] 1 = none → getR us ss (mo : Int) = .error 2) ∧ (∀ out, M ≠ 0 → getS n mo ss us [] 1 = some out → getR us ss (mo : Int) = .ok out) := fun h => by
    have hbad : ¬ (us.length = 0 ∨ (mo : Int) < 0 ∨ 900000 < (mo : Int) ∨ riseB us = false) := by
      rintro (h3 | h3 | h3 | h3)
      · omega
      · omega
      · omega
      · rw [h] at h3; cases h3
    unfold getR
    rw [if_neg hbad, hlu]
    refine ⟨fun h => by rw [if_pos (by omega)], fun h3 h4 => ?_, fun out h3 h4 => ?_⟩
    · rw [if_neg (by omega), Int.toNat_natCast, h4]
    · rw [if_neg (by omega), Int.toNat_natCast, h4]
  have hri := riseB_iff us
  rw [hlu] at hri
  have HLU := Lib.hid hlu; clear hlu
  have HLS := Lib.hid hls; clear hls
  have HR5 := Lib.hid hR5; clear hR5
  have HRN := Lib.hid hRn; clear hRn
  have HRI := Lib.hid hri; clear hri
  go_enter Try.func14, Try.ntmps14
  go_wp2_with fail
  go_loopg [8] (n - 1) (fun k v8 wr => ∃ i : Nat, 1 ≤ i ∧ i ≤ n ∧ n - i = k ∧ v8 = .int .i64 (i : Int) ∧ Hid (∀ j, 0 < j → j < i → (at8 us (j - 1)).toNat < (at8 us j).toNat) ∧ Below w.heap.size w wr)
  case atStart => exact ⟨1, Nat.le_refl _, by omega, rfl, rfl, Lib.hid (fun j h0 h1 => by omega), Below.refl _ _⟩
  case round =>
    obtain ⟨i, hi1, hin, rfl, rfl, hri, bw⟩ := hrel
    rename World => wr
    by_cases hlt : i < n
    · obtain ⟨ne, c1⟩ := (hu.below bw).get8 hlt
      obtain ⟨_, c2⟩ := (hu.below bw).get8 (show i - 1 < n by omega)
      obtain ⟨x, hx⟩ : ∃ x, (at8 us i).toNat = x := ⟨_, rfl⟩
      obtain ⟨y, hy⟩ : ∃ y, (at8 us (i - 1)).toNat = y := ⟨_, rfl⟩
      rw [hx] at c1
      rw [hy] at c2
      obtain ⟨p, hp⟩ : ∃ p, i - 1 = p := ⟨_, rfl⟩
      rw [hp] at c2
      have hp1 : (i : Int) - 1 = (p : Int) := by omega
      have hpn : (p : Int) < (n : Int) := by omega
      have hin2 : (i : Int) < (n : Int) := by omega
      have HX := Lib.hid hx; clear hx
      have HY := Lib.hid hy; clear hy
      have HP := Lib.hid hp; clear hp
      by_cases hxy : y < x
      · have t1 : decide ((x : Int) ≤ (y : Int)) = false := deF (by omega)
        go_upto_region 6 with fail
        (try simp only [List.append])
        refine wp_region_quiet_lit (by kernel_rfl) (by kernel_rfl) ?_
        repeat (go_big_quiet_step (fail))
        refine wpQuiet_nil ?_
        intro _ hw'
        obtain ⟨nq, hw''⟩ := hw'
        subst hw''
        have bn := bDraws bw nq
        clear c1 c2 bw
        generalize wr.drewN nq = w2 at *
        go_wp2_with fail
        go_roundg (n - (i + 1))
        case measure => omega
        case rel => exact ⟨i + 1, by omega, by omega, rfl, by simp, Lib.hid (fun j h0 h1 => by
          by_cases e : j = i
          · rw [e, HX.out, HY.out]; exact hxy
          · exact hri.out j h0 (by omega)), bn⟩
      · have t1 : decide ((x : Int) ≤ (y : Int)) = true := deT (by omega)
        go_upto_region 6 with fail
        (try simp only [List.append])
        refine wp_region_quiet_lit (by kernel_rfl) (by kernel_rfl) ?_
        repeat (go_big_quiet_step (fail))
        refine wpQuiet_nil ?_
        intro _ hw'
        obtain ⟨nq, hw''⟩ := hw'
        subst hw''
        have bn := bDraws bw nq
        clear c1 c2 bw
        generalize wr.drewN nq = w2 at *
        go_wp2_with fail
        refine bodyPost_ret (results_tmp2 rfl _ _ _) rfl ?_
        refine ⟨.inl ⟨_, HR5.out ?_, rfl⟩, bn⟩
        rw [Bool.eq_false_iff]
        intro h
        have := HRI.out.1 h i (by omega) hlt
        rw [HX.out, HY.out] at this
        exact hxy this
    · obtain rfl : n = i := by omega
      obtain ⟨hN0, hNn, hNs⟩ := HRN.out (HRI.out.2 hri.out)
      clear hri HRI HRN HR5 hlt hin hi1
      obtain ⟨Z, hZ⟩ : ∃ Z, getS n mo ss us [] 1 = Z := ⟨_, rfl⟩
      rw [hZ] at hNn hNs
      have HE : Hid (Z = none → M ≠ 0 → getR us ss (mo : Int) = .error 2) := Lib.hid (fun h1 h2 => hNn h2 h1)
      have HO : Hid (∀ out, M ≠ 0 → Z = some out → getR us ss (mo : Int) = .ok out) := Lib.hid hNs
      have hG0 : GIn (getR us ss (mo : Int) = .error 2) n mo ss Z us [] 0 := by
        rcases Nat.eq_zero_or_pos M with h | h
        · exact .inl ⟨by rw [HLS.out]; omega, hN0 h⟩
        · exact .inr ⟨by rw [HLS.out]; omega, 1, by rw [List.drop_zero, hZ], .inl rfl⟩
      have HG0 := Lib.hid hG0; clear hG0
      generalize hER : (getR us ss (mo : Int) = .error 2) = ER at *
      have HER := Lib.hid hER; clear hER
      clear hNn hNs hN0 hZ
      go_wp2_with (refine wpList_clone rfl _ _ _ rfl elB rfl rfl (hu.below bw) (by unfold maxLen; omega) (by omega) ?_; intro a1 k1 w1 o1 b1 s1; clear s1)
      have bw1 := bw.trans (b1.mono bw.size)
      replace o1 := o1.lower bw.size
      clear b1 bw
      go_loopg [9, 11, 12] M (fun k v9 v11 v12 wr => ∃ (i : Nat) (ys out : List UInt8) (a : Option Addr) (c : Nat) (a2 : Option Addr) (c2 : Nat), i ≤ M ∧ M - i = k ∧ v9 = .slice a n c ∧ v11 = .slice a2 out.length c2 ∧ v12 = .int .i64 (i : Int) ∧ out.length ≤ mo ∧ Hid (GIn ER n mo ss Z ys out i) ∧ Hid (ys.length = n) ∧ Below w.heap.size w wr ∧ Own wr 5 1 w.heap.size a n c (B8 ys) ∧ Own wr 5 1 w.heap.size a2 out.length c2 (B8 out) ∧ (∀ g, a = some ⟨g, 0, none⟩ → bOf a2 ≠ some g))
      case atStart => exact ⟨0, us, [], a1, k1, none, 0, Nat.zero_le _, rfl, rfl, rfl, rfl, Nat.zero_le _, HG0, HLU, bw1, o1, Own.nil _ _ _ _, fun g _ h => by cases h⟩
      case round =>
        clear o1 bw1 HG0
        obtain ⟨i, ys, out, a, c, a2, c2, hiM, rfl, rfl, rfl, rfl, hout, hG, hyl, bw, oy, os, hsep⟩ := hrel
        rename World => wr
        by_cases hlt : i < M
        · obtain ⟨nb, cs⟩ := (hs.below bw).getI hlt
          obtain ⟨s, hsx⟩ : ∃ s, atI ss i = s := ⟨_, rfl⟩
          rw [hsx] at cs
          obtain ⟨wo, hgs, hwo⟩ : ∃ wo, getS n mo (ss.drop i) ys out wo = Z ∧ (wo = 1 ∨ (s ≠ 0 ∧ s ≠ 1)) := by
            rcases hG.out with ⟨h, _⟩ | ⟨_, wo, h1, h2⟩
            · rw [HLS.out] at h; omega
            · exact ⟨wo, h1, by rwa [hsx] at h2⟩
          have hds := getS_drop (m := n) (most := mo) (ys := ys) (out := out) (wo := wo) (by rw [HLS.out]; exact hlt) hsx
          rw [HLS.out, hgs] at hds
          have HDS := Lib.hid hds; clear hds
          have HGS := Lib.hid hgs; clear hgs
          have HSX := Lib.hid hsx; clear hsx
          have hiM2 : (i : Int) < (M : Int) := by omega
          by_cases s2 : s = (n : Int) + 1
          · subst s2
            have t3 : ((n : Int) + 1 == (n : Int) + 1) = true := by simp
            by_cases s3 : i + 1 = M
            · have t4 : ((i : Int) == (M : Int) - 1) = true := by rw [beq_iff_eq]; omega
              have hZ : Z = some out := by
                rw [HDS.out, if_neg (by rintro (h | h | h); omega; omega; exact h (by simp [s3])), if_neg (by omega), if_neg (by omega), if_neg (by omega), if_neg (by omega), List.drop_of_length_le (by rw [HLS.out]; omega), getS]
              have hR := HO.out out (by omega) hZ
              go_wp2_with fail
              refine bodyPost_ret (results_tmp2 rfl _ _ _) rfl ?_
              exact ⟨.inr ⟨out, a2, c2, hR, rfl, os, by omega⟩, bw⟩
            · have t4 : ((i : Int) == (M : Int) - 1) = false := beq_eq_false_iff_ne.2 (by omega)
              have hZ : Z = none := by rw [HDS.out, if_pos (.inr (.inr (by simp [s3])))]
              have hR := HE.out hZ (by omega)
              rw [← HER.out] at hR
              go_wp2_with fail
              refine bodyPost_ret (results_tmp2 rfl _ _ _) rfl ?_
              refine ⟨.inl ⟨_, ?_, rfl⟩, bw⟩
              exact hR
          · have t3 : (s == (n : Int) + 1) = false := beq_eq_false_iff_ne.2 s2
            by_cases s0 : s < 0
            · have hR := HE.out (by rw [HDS.out, if_pos (.inl s0)]) (by omega)
              rw [← HER.out] at hR
              go_wp2_with fail
              refine bodyPost_ret (results_tmp2 rfl _ _ _) rfl ?_
              refine ⟨.inl ⟨_, ?_, rfl⟩, bw⟩
              exact hR
            by_cases s1 : (n : Int) + 1 < s
            · have hR := HE.out (by rw [HDS.out, if_pos (.inr (.inl s1))]) (by omega)
              rw [← HER.out] at hR
              go_wp2_with fail
              refine bodyPost_ret (results_tmp2 rfl _ _ _) rfl ?_
              refine ⟨.inl ⟨_, ?_, rfl⟩, bw⟩
              exact hR
            by_cases s4 : 1 < s
            · obtain ⟨k, hk⟩ : ∃ k : Nat, s = (k : Int) + 1 := ⟨(s - 1).toNat, by omega⟩
              subst hk
              have hkn : k < n := by omega
              have hmvl := moved_law wr a n c ys oy.rd k hkn (by omega)
              have hml := mvd_len ys k (by rw [hyl.out]; exact hkn)
              rw [hyl.out] at hml
              have hgn : GIn ER n mo ss Z (mvd ys k) (out ++ [at8 ys k]) (i + 1) ∨ mo < out.length + 1 ∧ ER := by
                have hd := HDS.out
                by_cases s3 : i + 1 = M
                · rw [if_pos (.inr (.inr (by simp [s3]; omega)))] at hd
                  exact .inl (.inl ⟨by rw [HLS.out]; exact s3, HE.out hd (by omega)⟩)
                · rw [if_neg (by rintro (h | h | h); omega; omega; exact h (by simp [s3]; omega)), if_neg (by omega), if_neg (by omega), if_pos (by omega), show ((k : Int) + 1 - 1).toNat = k by omega] at hd
                  by_cases hov : mo < out.length + 1
                  · rw [if_pos hov] at hd; exact .inr ⟨hov, HE.out hd (by omega)⟩
                  · rw [if_neg hov] at hd
                    exact .inl (.inr ⟨by rw [HLS.out]; omega, 1, hd.symm, .inl rfl⟩)
              have hx0 : at8 (mvd ys k) 0 = at8 ys k := rfl
              obtain ⟨x, hx⟩ : ∃ x, at8 ys k = x := ⟨_, rfl⟩
              rw [hx] at hgn hx0
              have HGN := Lib.hid hgn; clear hgn
              have HX0 := Lib.hid hx0; clear hx0 hx
              have HML := Lib.hid hml; clear hml
              have hblk : ∀ g, bOf a2 = some g → g < wr.heap.size := fun g hg => by
                obtain ⟨_, hc⟩ := os.cases
                rcases hc with ⟨h1, _⟩ | ⟨g', cur, h1, _, hgc, _⟩
                · rw [h1] at hg; cases hg
                · rw [h1] at hg; simp [bOf] at hg; subst hg; exact (Array.getElem?_eq_some_iff.1 hgc).1
              go_upto_region 18 with (refine hmvl.mono ?_; rintro e w5 ⟨a5, c5, rfl, o5, b5⟩)
              have os5 := os.below b5
              have bw5 := bw.trans (b5.mono bw.size)
              obtain ⟨n5, cx⟩ := o5.rd.get8 (k := 0) (by omega)
              rw [HX0.out] at cx
              have hsep5 : ∀ g, a5 = some ⟨g, 0, none⟩ → wr.heap.size ≤ g ∧ g < w5.heap.size := fun g hg => o5.blk hg
              have hws := bw.size
              clear hmvl oy os bw b5 cs
              go_upto_region 19 with (refine wpList_push rfl _ _ _ rfl elB rfl rfl os5 (ys := [.int .u8 (x.toNat : Int)]) rfl (by simp [Value.oneCell']) (by unfold maxLen; omega) (by omega) bw5.size ?_; intro a8 c8 w8 o8 g8 n8)
              have bw8 := Own.grown bw5 os5 g8 bw5.size (Nat.le_refl _)
              have oy8 := o5.other g8 (fun g hg e => by have := hsep5 g hg; have := hblk g e; omega)
              rw [show B8 out ++ [.int .u8 (x.toNat : Int)] = B8 (out ++ [x]) by simp [B8]] at o8
              have hsep8 : ∀ g, a5 = some ⟨g, 0, none⟩ → bOf a8 ≠ some g := fun g hg e => by
                obtain ⟨_, hc⟩ := o8.cases
                rcases hc with ⟨h1, _⟩ | ⟨g', cur, h1, _⟩
                · rw [h1] at e; cases e
                · have h3 := hsep5 g hg
                  rw [h1] at e; simp [bOf] at e; subst e
                  rcases n8 _ h1 with h4 | h4
                  · have := hblk g' (by rw [h4]; rfl); omega
                  · omega
              clear os5 o5 bw5 g8 n8 cx
              by_cases hov : mo < out.length + 1
              · have hR : ER := by
                  rcases HGN.out with h | h
                  · rcases h with ⟨_, h⟩ | ⟨hi, wo', hz', _⟩
                    · exact h
                    · have hd := HDS.out
                      rw [HLS.out] at hi
                      rw [if_neg (by rintro (h | h | h); omega; omega; exact h (by simp; omega)), if_neg (by omega), if_neg (by omega), if_pos (by omega), if_pos hov] at hd
                      exact HE.out hd (by omega)
                  · exact h.2
                have h9 : (mo : Int) < (out.length : Int) + 1 := by omega
                rw [← HER.out] at hR
                go_wp2_with fail
                refine bodyPost_ret (results_tmp2 rfl _ _ _) rfl ?_
                refine ⟨.inl ⟨_, ?_, rfl⟩, bw8⟩
                exact hR
              · have h9 : ¬ (mo : Int) < (out.length : Int) + 1 := by omega
                go_wp2_with fail
                have hlen : out.length + 1 = (out ++ [x]).length := by simp
                go_roundg (M - (i + 1))
                case measure => omega
                case rel => exact ⟨i + 1, mvd ys k, out ++ [x], a5, c5, a8, c8, by omega, rfl, rfl, by rw [hlen], by simp, by rw [← hlen]; omega, Lib.hid (by rcases HGN.out with h | h; exact h; omega), HML, bw8, oy8.lower (by omega), by rw [← hlen]; exact o8, hsep8⟩
            · have hwo1 : wo = 1 := by omega
              subst hwo1
              clear hwo
              have hSt0 : GSt ER n mo ss Z ys out i 0 1 := .inr (.inr ⟨by rw [HLS.out]; exact hlt, hout, by rw [List.replicate_zero, List.append_nil]; exact HGS.out⟩)
              have HST0 := Lib.hid hSt0; clear hSt0
              have hsd : s = 0 ∨ s = 1 := by omega
              go_wp2_with fail
              go_loopg [12, 14, 15] (M - i) (fun kk v12 v14 v15 wq => ∃ (j N wo' : Nat), i ≤ j ∧ j ≤ M ∧ M - j = kk ∧ v12 = .int .i64 (j : Int) ∧ v14 = .int .i64 (N : Int) ∧ v15 = .int .i64 (wo' : Int) ∧ 1 ≤ wo' ∧ wo' ≤ N + 1 ∧ N ≤ 400000 ∧ (i = j → N = 0) ∧ Hid (GSt ER n mo ss Z ys out j N wo') ∧ wq = wr)
              case atStart => exact ⟨i, 0, 1, Nat.le_refl _, by omega, rfl, rfl, rfl, rfl, Nat.le_refl _, by omega, by omega, fun _ => rfl, HST0, rfl⟩
              case round =>
                clear cs
                obtain ⟨j, N, wo', hij, hjM, rfl, rfl, rfl, rfl, hw1, hw2, hN4, hN0, hSt, rfl⟩ := hrel
                rename World => wr
                by_cases hjl : j < M
                · obtain ⟨nb2, cj⟩ := (hs.below bw).getI hjl
                  obtain ⟨u, hu1⟩ : ∃ u, atI ss j = u := ⟨_, rfl⟩
                  rw [hu1] at cj
                  have hjM2 : (j : Int) < (M : Int) := by omega
                  have hus : i = j → u = s := fun e => by rw [← hu1, ← e, HSX.out]
                  by_cases hd0 : u = 0
                  · by_cases hNm0 : mo < N
                    · have hun := hu1
                      have hR : ER := by
                        rcases hSt.out with ⟨_, h⟩ | ⟨_, h⟩ | ⟨_, h, _⟩
                        · exact h
                        · exact h
                        · omega
                      have h8 : ¬ ((N : Int) ≤ (mo : Int)) := by omega
                      have h9 : (mo : Int) < (N : Int) := by omega
                      rw [← HER.out] at hR
                      clear hun hu1 hus
                      subst hd0
                      go_wp2_with fail
                      refine bodyPost_ret (results_tmp2 rfl _ _ _) rfl ?_
                      refine ⟨.inl ⟨_, ?_, rfl⟩, bw⟩
                      exact hR
                    · have h8 : (N : Int) ≤ (mo : Int) := by omega
                      have hst := hSt.out.step (fun h => HE.out h (by omega)) (by omega) (by rw [HLS.out]; exact hjl) 0 (by omega) (by rw [hu1, hd0]; rfl)
                      have HST := Lib.hid hst; clear hst
                      have HU1 := Lib.hid hu1; clear hu1
                      subst hd0
                      go_wp2_with fail
                      go_roundg (M - (j + 1))
                      case measure => omega
                      case rel => exact ⟨j + 1, N + wo' * (0 + 1), 2 * wo', by omega, by omega, rfl, by simp, congrArg (Value.int .i64) (by omega), congrArg (Value.int .i64) (by omega), by omega, by omega, by omega, by omega, HST, rfl⟩
                  · by_cases hd1 : u = 1
                    · by_cases hNm0 : mo < N
                      · have hun := hu1
                        have hR : ER := by
                          rcases hSt.out with ⟨_, h⟩ | ⟨_, h⟩ | ⟨_, h, _⟩
                          · exact h
                          · exact h
                          · omega
                        have h8 : ¬ ((N : Int) ≤ (mo : Int)) := by omega
                        have h9 : (mo : Int) < (N : Int) := by omega
                        rw [← HER.out] at hR
                        clear hun hu1 hus
                        subst hd1
                        go_wp2_with fail
                        refine bodyPost_ret (results_tmp2 rfl _ _ _) rfl ?_
                        refine ⟨.inl ⟨_, ?_, rfl⟩, bw⟩
                        exact hR
                      · have h8 : (N : Int) ≤ (mo : Int) := by omega
                        have hst := hSt.out.step (fun h => HE.out h (by omega)) (by omega) (by rw [HLS.out]; exact hjl) 1 (by omega) (by rw [hu1, hd1]; rfl)
                        have HST := Lib.hid hst; clear hst
                        have HU1 := Lib.hid hu1; clear hu1
                        subst hd1
                        go_wp2_with fail
                        go_roundg (M - (j + 1))
                        case measure => omega
                        case rel => exact ⟨j + 1, N + wo' * (1 + 1), 2 * wo', by omega, by omega, rfl, by simp, congrArg (Value.int .i64) (by omega), congrArg (Value.int .i64) (by omega), by omega, by omega, by omega, by omega, HST, rfl⟩
                    · have t7 : (u == 0) = false := beq_eq_false_iff_ne.2 hd0
                      have t8 : (u == 1) = false := beq_eq_false_iff_ne.2 hd1
                      have hij2 : i < j := by
                        rcases Nat.lt_or_ge i j with h | h
                        · exact h
                        · have := hus (by omega); omega
                      have hex : j < ss.length → atI ss j ≠ 0 ∧ atI ss j ≠ 1 := fun _ => by rw [hu1]; exact ⟨hd0, hd1⟩
                      clear hu1 hus
                      by_cases hNm : mo < N
                      · have hR : ER := by
                          rcases hSt.out with ⟨_, h⟩ | ⟨_, h⟩ | ⟨_, h, _⟩
                          · exact h
                          · exact h
                          · omega
                        have h9 : (mo : Int) < (N : Int) := by omega
                        rw [← HER.out] at hR
                        go_wp2_with fail
                        refine bodyPost_ret (results_tmp2 rfl _ _ _) rfl ?_
                        refine ⟨.inl ⟨_, ?_, rfl⟩, bw⟩
                        exact hR
                      · have h9 : ¬ (mo : Int) < (N : Int) := by omega
                        have hGN : out.length + N ≤ mo → GIn ER n mo ss Z ys (out ++ List.replicate N (at8 ys 0)) j := fun hle => by
                          rcases hSt.out with ⟨h, _⟩ | ⟨h1, h2⟩ | ⟨h1, _, h2⟩
                          · omega
                          · exact .inl ⟨h1, h2⟩
                          · exact .inr ⟨h1, wo', h2, .inr (hex h1)⟩
                        have hER2 : mo < out.length + N → ER := fun hlt => by
                          rcases hSt.out with ⟨_, h⟩ | ⟨_, h⟩ | ⟨_, h, _⟩
                          · exact h
                          · exact h
                          · omega
                        have HGN := Lib.hid hGN; clear hGN
                        have HER2 := Lib.hid hER2; clear hER2
                        obtain ⟨x, hx⟩ : ∃ x, at8 ys 0 = x := ⟨_, rfl⟩
                        rw [hx] at HGN
                        go_wp2_with fail
                        go_loopg [11, 16] N (fun kk v11 v16 wq => ∃ (t : Nat) (a3 : Option Addr) (c3 : Nat), t ≤ N ∧ N - t = kk ∧ v11 = .slice a3 (out.length + t) c3 ∧ v16 = .int .i64 (t : Int) ∧ Below w.heap.size w wq ∧ Own wq 5 1 w.heap.size a n c (B8 ys) ∧ Own wq 5 1 w.heap.size a3 (out.length + t) c3 (B8 (out ++ List.replicate t x)) ∧ (∀ g, a = some ⟨g, 0, none⟩ → bOf a3 ≠ some g))
                        case atStart => exact ⟨0, a2, c2, Nat.zero_le _, rfl, rfl, rfl, bw, oy, by simpa using os, hsep⟩
                        case round =>
                          clear os oy bw hsep
                          obtain ⟨t, a3, c3, htN, rfl, rfl, rfl, bw, oy, os, hsep⟩ := hrel
                          rename World => wq
                          by_cases htl : t < N
                          · obtain ⟨n5, cx⟩ := oy.rd.get8 (k := 0) (by omega)
                            rw [hx] at cx
                            have hoyb : ∀ g, a = some ⟨g, 0, none⟩ → g < wq.heap.size := fun g hg => (oy.blk hg).2
                            have htl2 : (t : Int) < (N : Int) := by omega
                            go_wp2_with (refine wpList_push rfl _ _ _ rfl elB rfl rfl os (ys := [.int .u8 (x.toNat : Int)]) rfl (by simp [Value.oneCell']) (by unfold maxLen; omega) (by omega) bw.size ?_; intro a8 c8 w8 o8 g8 n8)
                            have bw8 := Own.grown bw os g8 bw.size (Nat.le_refl _)
                            have oy8 := oy.other g8 hsep
                            have hsep8 : ∀ g, a = some ⟨g, 0, none⟩ → bOf a8 ≠ some g := fun g hg e => by
                              obtain ⟨_, hc⟩ := o8.cases
                              rcases hc with ⟨h1, _⟩ | ⟨g', cur, h1, _⟩
                              · rw [h1] at e; cases e
                              · have h3 := hoyb g hg
                                rw [h1] at e; simp [bOf] at e; subst e
                                rcases n8 _ h1 with h4 | h4
                                · exact hsep _ hg (by rw [h4]; rfl)
                                · omega
                            rw [show B8 (out ++ List.replicate t x) ++ [.int .u8 (x.toNat : Int)] = B8 (out ++ List.replicate (t + 1) x) by simp [B8, List.replicate_succ']] at o8
                            go_roundg (N - (t + 1))
                            case measure => omega
                            case rel => exact ⟨t + 1, a8, c8, by omega, rfl, by rw [← Nat.add_assoc], by simp, bw8, oy8, by rw [← Nat.add_assoc]; exact o8, hsep8⟩
                          · obtain rfl : t = N := by omega
                            by_cases hov : mo < out.length + t
                            · have hR := HER2.out hov
                              have h10 : (mo : Int) < (out.length : Int) + (t : Int) := by omega
                              rw [← HER.out] at hR
                              go_wp2_with fail
                              refine bodyPost_ret (results_tmp2 rfl _ _ _) rfl ?_
                              refine ⟨.inl ⟨_, ?_, rfl⟩, bw⟩
                              exact hR
                            · have h10 : ¬ (mo : Int) < (out.length : Int) + (t : Int) := by omega
                              go_wp2_with fail
                              have hlen : out.length + t = (out ++ List.replicate t x).length := by simp
                              go_roundg (M - j)
                              case measure => omega
                              case rel => exact ⟨j, ys, out ++ List.replicate t x, a, c, a3, c3, by omega, rfl, rfl, by rw [hlen], rfl, by rw [← hlen]; omega, Lib.hid (HGN.out (by omega)), hyl, bw, oy, by rw [← hlen]; exact os, hsep⟩
                · obtain rfl : j = M := by omega
                  have hij2 : i < j := hlt
                  have hex : j < ss.length → atI ss j ≠ 0 ∧ atI ss j ≠ 1 := fun h => by rw [HLS.out] at h; omega
                  by_cases hNm : mo < N
                  · have hR : ER := by
                      rcases hSt.out with ⟨_, h⟩ | ⟨_, h⟩ | ⟨_, h, _⟩
                      · exact h
                      · exact h
                      · omega
                    have h9 : (mo : Int) < (N : Int) := by omega
                    rw [← HER.out] at hR
                    go_wp2_with fail
                    refine bodyPost_ret (results_tmp2 rfl _ _ _) rfl ?_
                    refine ⟨.inl ⟨_, ?_, rfl⟩, bw⟩
                    exact hR
                  · have h9 : ¬ (mo : Int) < (N : Int) := by omega
                    have hGN : out.length + N ≤ mo → GIn ER n mo ss Z ys (out ++ List.replicate N (at8 ys 0)) j := fun hle => by
                      rcases hSt.out with ⟨h, _⟩ | ⟨h1, h2⟩ | ⟨h1, _, h2⟩
                      · omega
                      · exact .inl ⟨h1, h2⟩
                      · exact .inr ⟨h1, wo', h2, .inr (hex h1)⟩
                    have hER2 : mo < out.length + N → ER := fun hlt => by
                      rcases hSt.out with ⟨_, h⟩ | ⟨_, h⟩ | ⟨_, h, _⟩
                      · exact h
                      · exact h
                      · omega
                    have HGN := Lib.hid hGN; clear hGN
                    have HER2 := Lib.hid hER2; clear hER2
                    obtain ⟨x, hx⟩ : ∃ x, at8 ys 0 = x := ⟨_, rfl⟩
                    rw [hx] at HGN
                    go_wp2_with fail
                    go_loopg [11, 16] N (fun kk v11 v16 wq => ∃ (t : Nat) (a3 : Option Addr) (c3 : Nat), t ≤ N ∧ N - t = kk ∧ v11 = .slice a3 (out.length + t) c3 ∧ v16 = .int .i64 (t : Int) ∧ Below w.heap.size w wq ∧ Own wq 5 1 w.heap.size a n c (B8 ys) ∧ Own wq 5 1 w.heap.size a3 (out.length + t) c3 (B8 (out ++ List.replicate t x)) ∧ (∀ g, a = some ⟨g, 0, none⟩ → bOf a3 ≠ some g))
                    case atStart => exact ⟨0, a2, c2, Nat.zero_le _, rfl, rfl, rfl, bw, oy, by simpa using os, hsep⟩
                    case round =>
                      clear os oy bw hsep
                      obtain ⟨t, a3, c3, htN, rfl, rfl, rfl, bw, oy, os, hsep⟩ := hrel
                      rename World => wq
                      by_cases htl : t < N
                      · obtain ⟨n5, cx⟩ := oy.rd.get8 (k := 0) (by omega)
                        rw [hx] at cx
                        have hoyb : ∀ g, a = some ⟨g, 0, none⟩ → g < wq.heap.size := fun g hg => (oy.blk hg).2
                        have htl2 : (t : Int) < (N : Int) := by omega
                        go_wp2_with (refine wpList_push rfl _ _ _ rfl elB rfl rfl os (ys := [.int .u8 (x.toNat : Int)]) rfl (by simp [Value.oneCell']) (by unfold maxLen; omega) (by omega) bw.size ?_; intro a8 c8 w8 o8 g8 n8)
                        have bw8 := Own.grown bw os g8 bw.size (Nat.le_refl _)
                        have oy8 := oy.other g8 hsep
                        have hsep8 : ∀ g, a = some ⟨g, 0, none⟩ → bOf a8 ≠ some g := fun g hg e => by
                          obtain ⟨_, hc⟩ := o8.cases
                          rcases hc with ⟨h1, _⟩ | ⟨g', cur, h1, _⟩
                          · rw [h1] at e; cases e
                          · have h3 := hoyb g hg
                            rw [h1] at e; simp [bOf] at e; subst e
                            rcases n8 _ h1 with h4 | h4
                            · exact hsep _ hg (by rw [h4]; rfl)
                            · omega
                        rw [show B8 (out ++ List.replicate t x) ++ [.int .u8 (x.toNat : Int)] = B8 (out ++ List.replicate (t + 1) x) by simp [B8, List.replicate_succ']] at o8
                        go_roundg (N - (t + 1))
                        case measure => omega
                        case rel => exact ⟨t + 1, a8, c8, by omega, rfl, by rw [← Nat.add_assoc], by simp, bw8, oy8, by rw [← Nat.add_assoc]; exact o8, hsep8⟩
                      · obtain rfl : t = N := by omega
                        by_cases hov : mo < out.length + t
                        · have hR := HER2.out hov
                          have h10 : (mo : Int) < (out.length : Int) + (t : Int) := by omega
                          rw [← HER.out] at hR
                          go_wp2_with fail
                          refine bodyPost_ret (results_tmp2 rfl _ _ _) rfl ?_
                          refine ⟨.inl ⟨_, ?_, rfl⟩, bw⟩
                          exact hR
                        · have h10 : ¬ (mo : Int) < (out.length : Int) + (t : Int) := by omega
                          go_wp2_with fail
                          have hlen : out.length + t = (out ++ List.replicate t x).length := by simp
                          go_roundg (j - j)
                          case measure => omega
                          case rel => exact ⟨j, ys, out ++ List.replicate t x, a, c, a3, c3, by omega, rfl, rfl, by rw [hlen], rfl, by rw [← hlen]; omega, Lib.hid (HGN.out (by omega)), hyl, bw, oy, by rw [← hlen]; exact os, hsep⟩
        · obtain rfl : i = M := by omega
          have hR : ER := by
            rcases hG.out with ⟨_, h⟩ | ⟨h, _⟩
            · exact h
            · rw [HLS.out] at h; omega
          have t4 : ((i : Int) == (i : Int) - 1) = false := beq_eq_false_iff_ne.2 (by omega)
          rw [← HER.out] at hR
          go_wp2_with fail
          refine bodyPost_ret (results_tmp2 rfl _ _ _) rfl ?_
          refine ⟨.inl ⟨_, ?_, rfl⟩, bw⟩
          exact hR
end Go.Proofs.Ytindbmfccgeikaa
