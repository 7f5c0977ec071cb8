/- sufsort.counted: the walk. -/
import Derived.Test.YtjjdckbdjmbndaaSufA
import Derived.Test.YtjjdckbdjmbndaaRows
namespace Go.Proofs.Ytjjdckbdjmbndaa
set_option linter.unusedSimpArgs false
set_option linter.unusedVariables false
open Go.RowKit

theorem tI : ElTy Try.prog 34 3 (.int .i64 0) 1 8 := ⟨Try.underlying34, info_parts (by kernel_rfl), rfl, by decide⟩

/-- a function of one number, by a closure: what it answers, whatever has been made since w -/
def KeyOf (w : World) (gf : Nat) (lb : Array Value) (ky : Nat → Nat) (l : List Nat) : Prop :=
  ∀ i ∈ l, ∀ W, Below w.heap.size w W → Calls Try.prog gf (#[.int .i64 (i : Int)] ++ lb) W fun e W' => e = .returned (.int .i64 (ky i : Int)) ∧ Below W.heap.size W W'

/-- behind the first loop: how often each key has come, one place further -/
def at1 (ky : Nat → Nat) (pre : List Nat) (p : Nat) : Nat := if p = 0 then 0 else eqC ky pre (p - 1)
/-- in the second loop -/
def at2 (ky : Nat → Nat) (l : List Nat) (k p : Nat) : Nat := if p < k then ltC ky l p else at1 ky l p
/-- in the third -/
def at3 (ky : Nat → Nat) (l pre : List Nat) (p : Nat) : Nat := ltC ky l p + eqC ky pre p

theorem split_at (l : List Nat) (j : Nat) (h : j < l.length) : l.take (j + 1) = l.take j ++ [atN l j] := by
  rw [List.take_succ_eq_append_getElem h, atN_get _ _ h]
theorem mem_at (l : List Nat) (j : Nat) (h : j < l.length) : atN l j ∈ l := by rw [atN_get _ _ h]; exact List.getElem_mem _

theorem at1_le (ky : Nat → Nat) (l : List Nat) (m p : Nat) (h : p < m) : atN (rowN (at1 ky l) m) p ≤ l.length := by
  rw [atN_row _ _ _ h]
  unfold at1 eqC
  split
  · exact Nat.zero_le _
  · exact List.countP_le_length

set_option maxRecDepth 100000 in
set_option maxHeartbeats 4000000 in
theorem counted_law (w : World) (ad : Option Addr) (n cap : Nat) (l : List Nat) (most : Nat) (gf : Nat) (lb : Array Value) (ky : Nat → Nat)
    (hl : Rd w 1 ad n cap (N64 l)) (hn : n ≤ 100000) (hm : most ≤ 100000) (hk : ∀ i ∈ l, ky i ≤ most) (hkey : KeyOf w gf lb ky l)
    (eg : ∀ args w, (callFunc gf args).run Try.prog w = .ok (.enter gf args) w) :
    Calls Try.prog 24 #[.slice ad n cap, .int .i64 most, .func (.func gf) #[] lb] w fun e w' =>
      ∃ g, e = .returned (.slice (some ⟨g, 0, none⟩) n n) ∧ Own w' 3 1 w.heap.size (some ⟨g, 0, none⟩) n n (N64 (csort ky l (most + 1))) ∧ Below w.heap.size w w' := by
  have hlen := hl.lenN
  have HL := Lib.hid hlen; clear hlen
  have HK := Lib.hid hk; clear hk
  have HKEY := Lib.hid hkey; clear hkey
  have h63 : most + 2 ≤ maxLen := by unfold maxLen; omega
  have H1 := Lib.hid h63; clear h63
  have hby : 8 * (most + 2) ≤ 281474976710656 := by omega
  have H2 := Lib.hid hby; clear hby
  have h63' : n ≤ maxLen := by unfold maxLen; omega
  have H3 := Lib.hid h63'; clear h63'
  have hby' : 8 * n ≤ 281474976710656 := by omega
  have H4 := Lib.hid hby'; clear hby'
  go_enter Try.func24, Try.ntmps24
  go_wp2_with (refine wpList_mk rfl _ _ _ rfl tI rfl rfl (most + 2) rfl rfl (by simp) (by simp) H1.out H2.out ?_; intro w1 o1 b1 s1; have S1 := Lib.hid s1; clear s1)
  rw [N64_zeros] at o1
  obtain ⟨B, hB⟩ : ∃ B, w.heap.size = B := ⟨_, rfl⟩
  rw [hB] at o1 b1 S1 ⊢
  have HB := Lib.hid hB; clear hB
  have hw1 : B ≤ w1.heap.size := by have := S1.out; omega
  have Hw1 := Lib.hid hw1; clear hw1
  go_loopg [19] n (fun k i wr => ∃ j : Nat, j ≤ n ∧ k = n - j ∧ i = .int .i64 j ∧ Below B w wr ∧ Own wr 3 1 B (some ⟨B, 0, none⟩) (most + 2) (most + 2) (N64 (rowN (at1 ky (l.take j)) (most + 2))))
  case atStart => exact ⟨0, Nat.zero_le _, by simp, rfl, b1, by
    have e : List.replicate (most + 2) 0 = rowN (at1 ky []) (most + 2) := by
      apply atN_ext (by simp [rowN_len])
      intro j hj
      simp at hj
      rw [atN_row _ _ _ hj]
      simp [atN, at1, eqC, hj]
    rw [List.take_zero, ← e]; exact o1⟩
  case round =>
    obtain ⟨j, hj, rfl, rfl, hb, ho⟩ := hrel
    rename World => wr
    have hsz := hb.size
    rw [HB.out] at hsz
    by_cases hlt : j < n
    · have hbw : Below w.heap.size w wr := by rw [HB.out]; exact hb
      obtain ⟨nx, cx⟩ := (hl.below hbw).getN hlt
      obtain ⟨v, hv⟩ : ∃ v, atN l j = v := ⟨_, rfl⟩
      have hvm : v ∈ l := by rw [← hv]; exact mem_at l j (by rw [HL.out]; exact hlt)
      rw [hv] at cx
      have hkv := HK.out v hvm
      obtain ⟨kv, hkv2⟩ : ∃ k, ky v = k := ⟨_, rfl⟩
      rw [hkv2] at hkv
      have hcall := HKEY.out v hvm wr hbw
      rw [hkv2] at hcall
      have HC := Lib.hid hcall; clear hcall
      have HV := Lib.hid hv; clear hv
      have HKV := Lib.hid hkv2; clear hkv2
      have HM := Lib.hid hvm; clear hvm
      go_wp2_with fail
      refine HC.out.mono ?_
      rintro e w2 ⟨rfl, b2⟩
      have ho2 := ho.below b2
      obtain ⟨c2, f2⟩ := ho2.getN (k := kv + 1) (by omega)
      have hle := at1_le ky (l.take j) (most + 2) (kv + 1) (by omega)
      have hle2 : (l.take j).length ≤ n := by rw [List.length_take]; omega
      have hle3 := Nat.le_trans hle hle2
      clear hle hle2
      generalize hat : atN (rowN (at1 ky (l.take j)) (most + 2)) (kv + 1) = ac at *
      have HA := Lib.hid hat; clear hat
      go_wp2_with fail
      go_roundg (n - (j + 1))
      case measure => omega
      case rel =>
        have hs2 := b2.size
        refine ⟨j + 1, by omega, rfl, by simp, (hb.trans (b2.mono hsz)).setCell (Nat.le_refl _) _, ?_⟩
        have h1 := ho2.setN (kv + 1) (ac + 1)
        rw [split_at l j (by rw [HL.out]; exact hlt), HV.out]
        rw [show ((ac : Int) + 1) = ((ac + 1 : Nat) : Int) by omega]
        rwa [rowN_set _ (at1 ky (l.take j ++ [v])) _ _ _ (fun k hk => ?_)] at h1
        have ha := HA.out
        rw [atN_row _ _ _ (by omega)] at ha
        by_cases h0 : k = 0
        · subst h0; simp [at1]
        · simp only [at1, if_neg h0, eqC_snoc, HKV.out]
          by_cases hk1 : k = kv + 1
          · subst hk1
            simp [at1] at ha
            simp [ha]
          · have : ¬ k - 1 = kv := by omega
            simp [hk1, this]
    · obtain rfl : n = j := by omega
      have hwr : Below w.heap.size w wr := by rw [HB.out]; exact hb
      rw [show l.take n = l by rw [← HL.out]; exact List.take_length] at ho
      clear hlt hj o1 b1
      go_wp2_with fail
      go_loopg [10] (most + 1) (fun k i wq => ∃ d : Nat, d ≤ most + 1 ∧ k = most + 1 - d ∧ i = .int .i64 ((d + 1 : Nat) : Int) ∧ Below B w wq ∧ Own wq 3 1 B (some ⟨B, 0, none⟩) (most + 2) (most + 2) (N64 (rowN (at2 ky l (d + 1)) (most + 2))))
      case atStart => exact ⟨0, Nat.zero_le _, by simp, by simp, hb, by
        rw [← rowN_congr (at1 ky l)]
        · exact ho
        · intro k hk
          unfold at2 at1
          split
          · rename_i h; have : k = 0 := by omega
            subst this; simp [ltC_zero]
          · rw [if_neg (by omega)]⟩
      case round =>
        obtain ⟨d, hd, rfl, rfl, hbq, hoq⟩ := hrel
        rename World => wq
        have hszq := hbq.size
        rw [HB.out] at hszq
        by_cases hlt : d < most + 1
        · obtain ⟨c1, f1⟩ := (hoq.drew).getN (k := d + 1) (by omega)
          obtain ⟨c0, f0⟩ := (hoq.drew).getN (k := d) (by omega)
          have e1 : atN (rowN (at2 ky l (d + 1)) (most + 2)) (d + 1) = eqC ky l d := by
            rw [atN_row _ _ _ (by omega)]; simp [at2, at1]
          have e0 : atN (rowN (at2 ky l (d + 1)) (most + 2)) d = ltC ky l d := by
            rw [atN_row _ _ _ (by omega)]; simp [at2]
          rw [e1] at c1; rw [e0] at c0
          have hd2 : d < most + 2 := by omega
          have hu1 : eqC ky l d ≤ n := by rw [← HL.out]; exact List.countP_le_length
          have hu0 : ltC ky l d ≤ n := by rw [← HL.out]; exact List.countP_le_length
          have hsum := ltC_succ ky l d
          have hstep := rowN_set (at2 ky l (d + 1)) (at2 ky l (d + 1 + 1)) (most + 2) (d + 1) (eqC ky l d + ltC ky l d) (fun k hk => by
            unfold at2
            by_cases h : k = d + 1
            · subst h; simp [hsum]; omega
            · by_cases h' : k < d + 1
              · simp [h, h', Nat.lt_succ_of_lt h']
              · have : ¬ k < d + 1 + 1 := by omega
                simp [h, h', this])
          clear e1 e0 hsum
          generalize eqC ky l d = x1 at *
          generalize ltC ky l d = x0 at *
          have HST := Lib.hid hstep; clear hstep
          go_upto_region 10 with fail
          go_region
          go_wp2_with fail
          go_roundg (most + 1 - (d + 1))
          case measure => omega
          case rel =>
            refine ⟨d + 1, by omega, rfl, by simp, hbq.drew.setCell (Nat.le_refl _) _, ?_⟩
            have h1 := hoq.drew.setN (d + 1) (x1 + x0)
            rw [HST.out] at h1
            rw [show ((x1 : Int) + (x0 : Int)) = ((x1 + x0 : Nat) : Int) by omega]
            exact h1
        · obtain rfl : d = most + 1 := by omega
          go_wp2_with (refine wpList_mk rfl _ _ _ rfl tI rfl rfl n rfl rfl rfl rfl H3.out H4.out ?_; intro w3 o3 b3 s3; have S3 := Lib.hid s3; clear s3)
          have hall : ∀ i ∈ l, ky i < most + 1 := fun i hi => by have := HK.out i hi; omega
          have HALL := Lib.hid hall; clear hall
          obtain ⟨Q, hQ⟩ : ∃ Q, wq.heap.size = Q := ⟨_, rfl⟩
          have hBQ := (hoq.blk rfl).2
          rw [hQ] at o3 b3 S3 hszq hBQ ⊢
          rw [N64_zeros] at o3
          have b3' := hbq.trans (b3.mono hszq)
          have hq3 : Own w3 3 1 B (some ⟨B, 0, none⟩) (most + 2) (most + 2) (N64 (rowN (at3 ky l []) (most + 2))) := by
            rw [rowN_congr (at3 ky l []) (at2 ky l (most + 1 + 1)) _ (fun k hk => by simp [at3, at2, eqC, if_pos (show k < most + 1 + 1 by omega)])]
            rw [← hQ] at b3
            exact hoq.below b3
          have HQ := Lib.hid hQ; clear hQ
          clear hoq b3
          have hs3 : Q < w3.heap.size := by have := S3.out; omega
          go_loopg [55] n (fun k i wr => ∃ j : Nat, j ≤ n ∧ k = n - j ∧ i = .int .i64 j ∧ Below B w wr ∧ Q < wr.heap.size ∧ Own wr 3 1 B (some ⟨B, 0, none⟩) (most + 2) (most + 2) (N64 (rowN (at3 ky l (l.take j)) (most + 2))) ∧
            Own wr 3 1 Q (some ⟨Q, 0, none⟩) n n (N64 (outS ky l (l.take j) (most + 1))))
          case atStart => exact ⟨0, Nat.zero_le _, by simp, rfl, b3', hs3, hq3, by
            rw [List.take_zero, outS_nil, ltC_all ky l _ HALL.out, HL.out]; exact o3⟩
          case round =>
            clear hq3 o3 b3'
            obtain ⟨j, hj, rfl, rfl, hb, hQs, ho, hr⟩ := hrel
            rename World => wr
            have hsz := hb.size
            rw [HB.out] at hsz
            by_cases hlt : j < n
            · have hbw : Below w.heap.size w wr := by rw [HB.out]; exact hb
              obtain ⟨nx, cx⟩ := (hl.below hbw).getN hlt
              obtain ⟨v, hv⟩ : ∃ v, atN l j = v := ⟨_, rfl⟩
              have hvm : v ∈ l := by rw [← hv]; exact mem_at l j (by rw [HL.out]; exact hlt)
              rw [hv] at cx
              have hkv := HK.out v hvm
              have hpre : ∀ k, eqC ky (l.take j) k ≤ eqC ky l k := fun k => by
                have h1 : l = l.take j ++ l.drop j := (List.take_append_drop j l).symm
                calc eqC ky (l.take j) k ≤ eqC ky (l.take j) k + eqC ky (l.drop j) k := Nat.le_add_right _ _
                  _ = eqC ky (l.take j ++ l.drop j) k := (eqC_app _ _ _ _).symm
                  _ = eqC ky l k := by rw [← h1]
              have hsp := split_at l j (by rw [HL.out]; exact hlt)
              rw [hv] at hsp
              have hmore : eqC ky (l.take j) (ky v) < eqC ky l (ky v) := by
                have h1 : l = l.take (j + 1) ++ l.drop (j + 1) := (List.take_append_drop _ l).symm
                have h2 : eqC ky l (ky v) = eqC ky (l.take (j + 1)) (ky v) + eqC ky (l.drop (j + 1)) (ky v) := by rw [← eqC_app, ← h1]
                rw [hsp, eqC_snoc] at h2
                simp at h2
                omega
              have hstep := outS_step ky l (l.take j) v hpre hmore (most + 1) (by omega)
              rw [← hsp] at hstep
              have htot : ltC ky l (ky v) + eqC ky (l.take j) (ky v) < n := by
                have h1 := ltC_succ ky l (ky v)
                have h2 : ltC ky l (ky v + 1) ≤ l.length := List.countP_le_length
                rw [HL.out] at h2
                omega
              have hset := rowN_set (at3 ky l (l.take j)) (at3 ky l (l.take (j + 1))) (most + 2) (ky v) (ltC ky l (ky v) + eqC ky (l.take j) (ky v) + 1) (fun k hk => by
                rw [hsp]
                simp only [at3, eqC_snoc]
                by_cases h : k = ky v
                · subst h; simp; omega
                · simp [h])
              have hread : atN (rowN (at3 ky l (l.take j)) (most + 2)) (ky v) = ltC ky l (ky v) + eqC ky (l.take j) (ky v) := by
                rw [atN_row _ _ _ (by omega)]; rfl
              have hcall : ∀ W, Below wr.heap.size wr W → Calls Try.prog gf (#[.int .i64 (v : Int)] ++ lb) W fun e W' => e = .returned (.int .i64 (ky v : Int)) ∧ Below W.heap.size W W' :=
                fun W hW => HKEY.out v hvm W (hbw.trans (hW.mono hbw.size))
              have hcall2 : ∀ W, Below B w W → Calls Try.prog gf (#[.int .i64 (v : Int)] ++ lb) W fun e W' => e = .returned (.int .i64 (ky v : Int)) ∧ Below W.heap.size W W' :=
                fun W hW => HKEY.out v hvm W (by rw [HB.out]; exact hW)
              generalize ltC ky l (ky v) + eqC ky (l.take j) (ky v) = c at *
              generalize ky v = kv at *
              have HC := Lib.hid hcall; clear hcall
              have HC2 := Lib.hid hcall2; clear hcall2
              have HST := Lib.hid hstep; clear hstep
              have HSE := Lib.hid hset; clear hset
              have HRD := Lib.hid hread; clear hread
              have HV := Lib.hid hv; clear hv
              have HSP := Lib.hid hsp; clear hsp
              have HP := Lib.hid hpre; clear hpre
              clear hvm hmore
              go_wp2_with fail
              refine (HC.out wr (Below.refl _ _)).mono ?_
              rintro e w4 ⟨rfl, b4⟩
              have ho4 := ho.below b4
              have hr4 := hr.below b4
              obtain ⟨c4, _⟩ := ho4.getN (k := kv) (by omega)
              rw [HRD.out] at c4
              obtain ⟨c5, f5⟩ := hr4.getN (k := c) (by omega)
              go_wp2_with fail
              have hr5 := hr4.setN c v
              rw [HST.out] at hr5
              have hQ4 : Q < w4.heap.size := Nat.lt_of_lt_of_le hQs b4.size
              have b5 : Below B w (w4.setCell ⟨Q, c, none⟩ (.int .i64 (v : Int))) := (hb.trans (b4.mono hsz)).setCell hszq _
              have ho5 := ho4.setOther ⟨Q, c, none⟩ (.int .i64 (v : Int)) (fun g hg => by simp at hg; simp; omega)
              have hs5 : (w4.setCell ⟨Q, c, none⟩ (.int .i64 (v : Int))).heap.size = w4.heap.size := by simp
              rw [← hs5] at hQ4
              clear hs5
              clear ho4 hr4 c4 c5 f5 ho hr
              generalize w4.setCell ⟨Q, c, none⟩ (.int .i64 (v : Int)) = w5 at *
              refine (HC2.out w5 b5).mono ?_
              rintro e w6 ⟨rfl, b6⟩
              have ho6 := ho5.below b6
              have hr6 := hr5.below b6
              obtain ⟨c6, f6⟩ := ho6.getN (k := kv) (by omega)
              rw [HRD.out] at c6
              go_wp2_with fail
              go_roundg (n - (j + 1))
              case measure => omega
              case rel =>
                have hs6 := b6.size
                have hs50 := b5.size
                rw [HB.out] at hs50
                refine ⟨j + 1, by omega, rfl, by simp, (b5.trans (b6.mono hs50)).setCell (Nat.le_refl _) _, by simp; omega, ?_, ?_⟩
                · have h1 := ho6.setN kv (c + 1)
                  rw [HSE.out] at h1
                  rw [show ((c : Int) + 1) = ((c + 1 : Nat) : Int) by omega]
                  exact h1
                · exact hr6.setOther _ _ (fun g hg => by simp at hg ⊢; omega)
            · obtain rfl : n = j := by omega
              rw [show l.take n = l by rw [← HL.out]; exact List.take_length, outS_all] at hr
              go_wp2_with fail
              go_ret
              exact ⟨Q, rfl, hr.lower (by rw [HB.out]; exact hszq), by rw [HB.out]; exact hb⟩
end Go.Proofs.Ytjjdckbdjmbndaa
