/- rotate.way, rotate.walk and the document's Way: the walks. -/
import Derived.Test.YtjjdckbdjmbndaaRotM
import Derived.Test.YtjjdckbdjmbndaaSufB
import Derived.Test.YtjjdckbdjmbndaaSeq
namespace Go.Proofs.Ytjjdckbdjmbndaa
set_option linter.unusedSimpArgs false
set_option linter.unusedVariables false
open Go.RowKit

theorem elB : ElTy Try.prog 22 5 (.int .u8 0) 1 1 := ⟨Try.underlying22, info_parts (by kernel_rfl), rfl, by decide⟩
/-- an array just laid: its cells -/
theorem ownArr {w : World} {g m : Nat} {t : TypeId} {cs : List Nat} (hg : w.heap[g]? = some (.cells (N64 cs).toArray t (0, 0))) (lo : Nat) (hlo : lo ≤ g) (hl : cs.length = m) (hm : m ≤ maxLen) : Own w t 1 lo (some ⟨g, 0, none⟩) m m (N64 cs) :=
  ⟨⟨by rw [N64_len]; omega, .inr ⟨g, m, (N64 cs).toArray, rfl, hlo, hg, Nat.le_refl _, hm, by simp [N64_len]; omega, by rw [List.take_of_length_le]; simp [N64_len]; omega⟩⟩, N64_one cs⟩
theorem zerosN (m : Nat) : List.replicate m 0 = rowN (fun _ => 0) m := by
  apply atN_ext (by simp [rowN_len])
  intro j hj
  simp at hj
  rw [atN_row _ _ _ hj]
  simp [atN, hj]
def z257 : Array Value := (N64 (rowN (fun _ => 0) 257)).toArray
theorem zero257 (w : World) : (zeroValue 44).run Try.prog w = .ok (.agg z257) w := by kernel_rfl

set_option maxRecDepth 100000 in
set_option maxHeartbeats 4000000 in
theorem way_law (w : World) (ad : Option Addr) (n cap : Nat) (b : List UInt8) (hb : Rd w 1 ad n cap (B8 b)) (hn : n ≤ 100000) :
    Calls Try.prog 18 #[.slice ad n cap] w fun e w' =>
      ∃ g, e = .returned (.slice (some ⟨g, 0, none⟩) n n) ∧ Own w' 3 1 w.heap.size (some ⟨g, 0, none⟩) n n (N64 (wayL b)) ∧ Below w.heap.size w w' := by
  have hl := hb.len8
  have HL := Lib.hid hl; clear hl
  have h63 : n ≤ maxLen := by unfold maxLen; omega
  have H1 := Lib.hid h63; clear h63
  have hby : 8 * n ≤ 281474976710656 := by omega
  have H2 := Lib.hid hby; clear hby
  have hz := zero257
  obtain ⟨B, hB⟩ : ∃ B, w.heap.size = B := ⟨_, rfl⟩
  have HB := Lib.hid hB
  have HALL : Hid (∀ i ∈ List.range n, kyB b i < 255 + 1) := Lib.hid fun i _ => kyB_lt b i
  go_enter Try.func18, Try.ntmps18
  go_wp2_with fail
  have o1 : Own (w.alloc (.cells z257 44)) 44 1 B (some ⟨B, 0, none⟩) 257 257 (N64 (rowN (fun _ => 0) 257)) := ownArr (by rw [← hB]; exact World.alloc_heap_new w _) B (Nat.le_refl _) (rowN_len _ _) (by decide)
  have hs1 : B < (w.alloc (.cells z257 44)).heap.size := by simp [hB]
  have b1 : Below B w (w.alloc (.cells z257 44)) := (Below.refl B w).alloc (by omega) _
  clear hB
  generalize w.alloc (.cells z257 44) = w1 at *
  obtain ⟨l, hl⟩ : ∃ l, List.range n = l := ⟨_, rfl⟩
  have hll : l.length = n := by rw [← hl]; simp
  have hlat : ∀ j, j < n → atN l j = j := fun j hj => by rw [← hl]; simp [atN, hj]
  have HLL := Lib.hid hll; clear hll
  have HLA := Lib.hid hlat; clear hlat
  rw [hl] at HALL
  have HLE := Lib.hid hl; clear hl
  have hky8 : ∀ j, (at8 b j).toNat = kyB b j := fun j => rfl
  have HKY := Lib.hid hky8; clear hky8
  go_loopg [12] n (fun k i wr => ∃ j : Nat, j ≤ n ∧ k = n - j ∧ i = .int .i64 j ∧ Below B w wr ∧ B < wr.heap.size ∧ Own wr 44 1 B (some ⟨B, 0, none⟩) 257 257 (N64 (rowN (at1 (kyB b) (l.take j)) 257)))
  case atStart => exact ⟨0, Nat.zero_le _, by simp, rfl, b1, hs1, by
    rw [List.take_zero, ← rowN_congr (fun _ => 0) (at1 (kyB b) []) 257 (fun k hk => by simp [at1, eqC])]; exact o1⟩
  case round =>
    obtain ⟨j, hj, rfl, rfl, hbr, hBr, ho⟩ := hrel
    rename World => wr
    clear b1 o1 hs1
    have hbw : Below w.heap.size w wr := by rw [HB.out]; exact hbr
    by_cases hlt : j < n
    · obtain ⟨nx, cx⟩ := (hb.below hbw).get8 hlt
      rw [HKY.out] at cx
      obtain ⟨kv, hkv⟩ : ∃ k, kyB b j = k := ⟨_, rfl⟩
      have hk256 : kv < 256 := by rw [← hkv]; exact kyB_lt b j
      rw [hkv] at cx
      have HKV := Lib.hid hkv; clear hkv
      obtain ⟨c2, f2⟩ := ho.getN (k := kv + 1) (by omega)
      have hle := at1_le (kyB b) (l.take j) 257 (kv + 1) (by omega)
      have hle2 : (l.take j).length ≤ n := by rw [List.length_take]; omega
      have hle3 := Nat.le_trans hle hle2
      clear hle hle2
      generalize hat : atN (rowN (at1 (kyB b) (l.take j)) 257) (kv + 1) = ac at *
      have HA := Lib.hid hat; clear hat
      have hw1 : IntKind.i64.wrap (kv : Int) = (kv : Int) := IntWalk.i64_in _ (by omega)
      go_wp2_with fail
      go_roundg (n - (j + 1))
      case measure => omega
      case rel =>
        refine ⟨j + 1, by omega, rfl, by simp, hbr.setCell (Nat.le_refl _) _, by simpa using hBr, ?_⟩
        have h1 := ho.setN (kv + 1) (ac + 1)
        rw [split_at l j (by rw [HLL.out]; exact hlt), HLA.out j hlt]
        rw [show ((ac : Int) + 1) = ((ac + 1 : Nat) : Int) by omega]
        rwa [rowN_set _ (at1 (kyB b) (l.take j ++ [j])) _ _ _ (fun k hk => ?_)] at h1
        have ha := HA.out
        rw [atN_row _ _ _ (by omega)] at ha
        by_cases h0 : k = 0
        · subst h0; simp [at1]
        · simp only [at1, if_neg h0, eqC_snoc, HKV.out]
          by_cases hk1 : k = kv + 1
          · subst hk1
            simp [at1] at ha
            simp [ha]
          · have : ¬ k - 1 = kv := by omega
            simp [hk1, this]
    · obtain rfl : n = j := by omega
      rw [show l.take n = l by rw [← HLL.out]; exact List.take_length] at ho
      go_wp2_with fail
      go_loopg [24] 256 (fun k i wq => ∃ d : Nat, d ≤ 256 ∧ k = 256 - d ∧ i = .int .i64 (d : Int) ∧ Below B w wq ∧ B < wq.heap.size ∧ Own wq 44 1 B (some ⟨B, 0, none⟩) 257 257 (N64 (rowN (at2 (kyB b) l (d + 1)) 257)))
      case atStart => exact ⟨0, Nat.zero_le _, by simp, by simp, hbr, hBr, by
        rw [← rowN_congr (at1 (kyB b) l)]
        · exact ho
        · intro k hk
          unfold at2 at1
          split
          · rename_i h; have : k = 0 := by omega
            subst this; simp [ltC_zero]
          · rw [if_neg (by omega)]⟩
      case round =>
        obtain ⟨d, hd, rfl, rfl, hbq, hBq, hoq⟩ := hrel
        rename World => wq
        clear ho hbr hBr hbw hlt hj
        by_cases hlt : d < 256
        · obtain ⟨c1, f1⟩ := (hoq.drew).getN (k := d + 1) (by omega)
          obtain ⟨c0, f0⟩ := (hoq.drew).getN (k := d) (by omega)
          have e1 : atN (rowN (at2 (kyB b) l (d + 1)) 257) (d + 1) = eqC (kyB b) l d := by
            rw [atN_row _ _ _ (by omega)]; simp [at2, at1]
          have e0 : atN (rowN (at2 (kyB b) l (d + 1)) 257) d = ltC (kyB b) l d := by
            rw [atN_row _ _ _ (by omega)]; simp [at2]
          rw [e1] at c1; rw [e0] at c0
          have hd2 : (d : Int) < 256 := by omega
          have hu1 : eqC (kyB b) l d ≤ n := by rw [← HLL.out]; exact List.countP_le_length
          have hu0 : ltC (kyB b) l d ≤ n := by rw [← HLL.out]; exact List.countP_le_length
          have hsum := ltC_succ (kyB b) l d
          have hstep := rowN_set (at2 (kyB b) l (d + 1)) (at2 (kyB b) l (d + 1 + 1)) 257 (d + 1) (eqC (kyB b) l d + ltC (kyB b) l d) (fun k hk => by
            unfold at2
            by_cases h : k = d + 1
            · subst h; simp [hsum]; omega
            · by_cases h' : k < d + 1
              · simp [h, h', Nat.lt_succ_of_lt h']
              · have : ¬ k < d + 1 + 1 := by omega
                simp [h, h', this])
          clear e1 e0 hsum
          generalize eqC (kyB b) l d = x1 at *
          generalize ltC (kyB b) l d = x0 at *
          have HST := Lib.hid hstep; clear hstep
          go_upto_region 10 with fail
          have hod := hoq.drew
          have hbd := hbq.drew
          have hsd : B < wq.drew.heap.size := hBq
          have HOD := Lib.hid hod; clear hod
          have HBD := Lib.hid hbd; clear hbd
          have HSD := Lib.hid hsd; clear hsd
          have hsm : IntKind.i64.wrap ((x1 : Int) + (x0 : Int)) = (x1 : Int) + (x0 : Int) := IntWalk.i64_in _ (by omega)
          have hdd : IntKind.i64.wrap ((d : Int) + 1) = (d : Int) + 1 := IntWalk.i64_in _ (by omega)
          have hd3 : (d : Int) + 1 < 257 := by omega
          have hd4 : (0 : Int) ≤ (d : Int) + 1 := by omega
          have hd5 : (d : Int) < 257 := by omega
          refine stl_tail 9 (by kernel_rfl) (by kernel_rfl) ?_
          simp only [List.take_succ_cons, List.take_zero, List.drop_succ_cons, List.drop_zero]
          refine stl_wp (by kernel_rfl) (by kernel_rfl) ?_; intro K hK; go_simp; refine hK _ ?_; clear hK K; (try simp only [Act.put, List.setIfInBounds_toArray, List.set_cons_zero, List.set_cons_succ, Array.setIfInBounds_toArray])
          refine stl_wp (by kernel_rfl) (by kernel_rfl) ?_; intro K hK; go_simp; refine hK _ ?_; clear hK K; (try simp only [Act.put, List.setIfInBounds_toArray, List.set_cons_zero, List.set_cons_succ, Array.setIfInBounds_toArray])
          refine stl_wp (by kernel_rfl) (by kernel_rfl) ?_; intro K hK; go_simp; refine hK _ ?_; clear hK K; (try simp only [Act.put, List.setIfInBounds_toArray, List.set_cons_zero, List.set_cons_succ, Array.setIfInBounds_toArray])
          refine stl_wp (by kernel_rfl) (by kernel_rfl) ?_; intro K hK; go_simp; refine hK _ ?_; clear hK K; (try simp only [Act.put, List.setIfInBounds_toArray, List.set_cons_zero, List.set_cons_succ, Array.setIfInBounds_toArray])
          refine stl_wp (by kernel_rfl) (by kernel_rfl) ?_; intro K hK; go_simp; refine hK _ ?_; clear hK K; (try simp only [Act.put, List.setIfInBounds_toArray, List.set_cons_zero, List.set_cons_succ, Array.setIfInBounds_toArray])
          refine stl_wp (by kernel_rfl) (by kernel_rfl) ?_; intro K hK; go_simp; refine hK _ ?_; clear hK K; (try simp only [Act.put, List.setIfInBounds_toArray, List.set_cons_zero, List.set_cons_succ, Array.setIfInBounds_toArray])
          refine stl_wp (by kernel_rfl) (by kernel_rfl) ?_; intro K hK; go_simp; refine hK _ ?_; clear hK K; (try simp only [Act.put, List.setIfInBounds_toArray, List.set_cons_zero, List.set_cons_succ, Array.setIfInBounds_toArray])
          refine stl_wp (by kernel_rfl) (by kernel_rfl) ?_; intro K hK; go_simp; refine hK _ ?_; clear hK K; (try simp only [Act.put, List.setIfInBounds_toArray, List.set_cons_zero, List.set_cons_succ, Array.setIfInBounds_toArray])
          refine stl_wp (by kernel_rfl) (by kernel_rfl) ?_; intro K hK; go_simp; refine hK _ ?_; clear hK K; (try simp only [Act.put, List.setIfInBounds_toArray, List.set_cons_zero, List.set_cons_succ, Array.setIfInBounds_toArray])
          refine stl_nil ?_
          go_wp2_with fail
          go_roundg (256 - (d + 1))
          case measure => omega
          case rel =>
            refine ⟨d + 1, by omega, rfl, by simp, HBD.out.setCell (Nat.le_refl _) _, by simpa using HSD.out, ?_⟩
            have h1 := HOD.out.setN (d + 1) (x1 + x0)
            rw [HST.out] at h1
            rw [show ((x1 : Int) + (x0 : Int)) = ((x1 + x0 : Nat) : Int) by omega]
            exact h1
        · obtain rfl : d = 256 := by omega
          clear hlt hd
          go_wp2_with (refine wpList_mk rfl _ _ _ rfl tI rfl rfl n rfl rfl rfl rfl H1.out H2.out ?_; intro w3 o3 b3 s3; have S3 := Lib.hid s3; clear s3)
          obtain ⟨Q, hQ⟩ : ∃ Q, wq.heap.size = Q := ⟨_, rfl⟩
          have hBQ := (hoq.blk rfl).2
          rw [hQ] at o3 b3 S3 hBQ ⊢
          rw [N64_zeros] at o3
          have b3' := hbq.trans (b3.mono (by omega))
          have hq3 : Own w3 44 1 B (some ⟨B, 0, none⟩) 257 257 (N64 (rowN (at3 (kyB b) l []) 257)) := by
            rw [rowN_congr (at3 (kyB b) l []) (at2 (kyB b) l (256 + 1)) _ (fun k hk => by simp [at3, at2, eqC, if_pos (show k < 256 + 1 by omega)])]
            rw [← hQ] at b3
            exact hoq.below b3
          have HQ := Lib.hid hQ; clear hQ
          clear hoq b3 hbq hBq
          have hs3 : Q < w3.heap.size := by have := S3.out; omega
          go_wp2_with fail
          go_loopg [42] n (fun k i wr => ∃ j : Nat, j ≤ n ∧ k = n - j ∧ i = .int .i64 j ∧ Below B w wr ∧ Q < wr.heap.size ∧ Own wr 44 1 B (some ⟨B, 0, none⟩) 257 257 (N64 (rowN (at3 (kyB b) l (l.take j)) 257)) ∧
            Own wr 3 1 Q (some ⟨Q, 0, none⟩) n n (N64 (outS (kyB b) l (l.take j) 256)))
          case atStart => exact ⟨0, Nat.zero_le _, by simp, rfl, b3', hs3, hq3, by
            rw [List.take_zero, outS_nil, ltC_all (kyB b) l 256 HALL.out, HLL.out]; exact o3⟩
          case round =>
            clear hq3 o3 b3' hs3
            obtain ⟨j, hj, rfl, rfl, hbr, hQs, ho, hr⟩ := hrel
            rename World => wr
            have hbw : Below w.heap.size w wr := by rw [HB.out]; exact hbr
            by_cases hlt : j < n
            · obtain ⟨nx, cx⟩ := (hb.below hbw).get8 hlt
              rw [HKY.out] at cx
              have hpre : ∀ k, eqC (kyB b) (l.take j) k ≤ eqC (kyB b) l k := fun k => by
                have h1 : l = l.take j ++ l.drop j := (List.take_append_drop j l).symm
                calc eqC (kyB b) (l.take j) k ≤ eqC (kyB b) (l.take j) k + eqC (kyB b) (l.drop j) k := Nat.le_add_right _ _
                  _ = eqC (kyB b) (l.take j ++ l.drop j) k := (eqC_app _ _ _ _).symm
                  _ = eqC (kyB b) l k := by rw [← h1]
              have hsp := split_at l j (by rw [HLL.out]; exact hlt)
              rw [HLA.out j hlt] at hsp
              have hmore : eqC (kyB b) (l.take j) (kyB b j) < eqC (kyB b) l (kyB b j) := by
                have h1 : l = l.take (j + 1) ++ l.drop (j + 1) := (List.take_append_drop _ l).symm
                have h2 : eqC (kyB b) l (kyB b j) = eqC (kyB b) (l.take (j + 1)) (kyB b j) + eqC (kyB b) (l.drop (j + 1)) (kyB b j) := by rw [← eqC_app, ← h1]
                rw [hsp, eqC_snoc] at h2
                simp at h2
                omega
              have hk256 := kyB_lt b j
              have hstep := outS_step (kyB b) l (l.take j) j hpre hmore 256 hk256
              rw [← hsp] at hstep
              have htot : ltC (kyB b) l (kyB b j) + eqC (kyB b) (l.take j) (kyB b j) < n := by
                have h1 := ltC_succ (kyB b) l (kyB b j)
                have h2 : ltC (kyB b) l (kyB b j + 1) ≤ l.length := List.countP_le_length
                rw [HLL.out] at h2
                omega
              have hset := rowN_set (at3 (kyB b) l (l.take j)) (at3 (kyB b) l (l.take (j + 1))) 257 (kyB b j) (ltC (kyB b) l (kyB b j) + eqC (kyB b) (l.take j) (kyB b j) + 1) (fun k hk => by
                rw [hsp]
                simp only [at3, eqC_snoc]
                by_cases h : k = kyB b j
                · subst h; simp; omega
                · simp [h])
              have hread : atN (rowN (at3 (kyB b) l (l.take j)) 257) (kyB b j) = ltC (kyB b) l (kyB b j) + eqC (kyB b) (l.take j) (kyB b j) := by
                rw [atN_row _ _ _ (by omega)]; rfl
              generalize ltC (kyB b) l (kyB b j) + eqC (kyB b) (l.take j) (kyB b j) = c at *
              generalize kyB b j = kv at *
              obtain ⟨c4, f4⟩ := ho.getN (k := kv) (by omega)
              rw [hread] at c4
              obtain ⟨c5, f5⟩ := hr.getN (k := c) (by omega)
              have HST := Lib.hid hstep; clear hstep
              have HSE := Lib.hid hset; clear hset
              have HRD := Lib.hid hread; clear hread
              have HSP := Lib.hid hsp; clear hsp
              have HP := Lib.hid hpre; clear hpre
              clear hmore
              have hQB : ¬ B = Q := by omega
              have hQB2 : ¬ Q = B := by omega
              have hkv257 : (kv : Int) < 257 := by omega
              go_wp2_with fail
              go_roundg (n - (j + 1))
              case measure => omega
              case rel =>
                refine ⟨j + 1, by omega, rfl, by simp, (hbr.setCell (by simp; omega) _).setCell (by simp) _, by simpa using hQs, ?_, ?_⟩
                · have h1 := (ho.setOther ⟨Q, c, none⟩ (.int .i64 (j : Int)) (fun g hg => by simp at hg ⊢; omega)).setN kv (c + 1)
                  rw [HSE.out] at h1
                  rw [show ((c : Int) + 1) = ((c + 1 : Nat) : Int) by omega]
                  exact h1
                · have h2 := hr.setN c j
                  rw [HST.out] at h2
                  exact h2.setOther _ _ (fun g hg => by simp at hg ⊢; omega)
            · obtain rfl : n = j := by omega
              rw [show l.take n = l by rw [← HLL.out]; exact List.take_length, outS_all] at hr
              go_wp2_with fail
              go_ret
              refine ⟨Q, rfl, ?_, by rw [HB.out]; exact hbr⟩
              have e : wayL b = csort (kyB b) l 256 := by rw [wayL, HL.out, HLE.out]
              rw [e]
              exact hr.lower (by rw [HB.out]; omega)

/-- the document's way: by bytes, and by places -/
theorem way_part (b : List UInt8) (c i : Nat) : (List.range (i + 1)).filter (fun j => kyB b j == c) = (List.range i).filter (fun j => kyB b j == c) ++ if kyB b i = c then [i] else [] := by
  rw [List.range_succ, List.filter_append]
  by_cases h : kyB b i = c <;> simp [h]
def wayP (b : List UInt8) (c : Nat) : List Nat := csort (kyB b) (List.range b.length) c
theorem wayP_succ (b : List UInt8) (c : Nat) : wayP b (c + 1) = wayP b c ++ (List.range b.length).filter fun j => kyB b j == c := by simp [wayP, csort, List.range_succ]

set_option maxRecDepth 100000 in
set_option maxHeartbeats 4000000 in
theorem refWay_law (w : World) (ad : Option Addr) (n cap : Nat) (b : List UInt8) (hb : Rd w 1 ad n cap (B8 b)) (hn : n ≤ 100000) :
    Calls Try.prog 19 #[.slice ad n cap] w fun e w' =>
      ∃ a c, e = .returned (.slice a n c) ∧ Own w' 3 1 w.heap.size a n c (N64 (wayL b)) ∧ Below w.heap.size w w' := by
  have hl := hb.len8
  have HL := Lib.hid hl; clear hl
  obtain ⟨B, hB⟩ : ∃ B, w.heap.size = B := ⟨_, rfl⟩
  have HB := Lib.hid hB; clear hB
  have hky8 : ∀ j, (at8 b j).toNat = kyB b j := fun j => rfl
  have HKY := Lib.hid hky8; clear hky8
  go_enter Try.func19, Try.ntmps19
  go_wp2_with fail
  go_loopg [3, 4] 256 (fun kk x y wr => ∃ (c m : Nat) (a : Option Addr) (cp : Nat), c ≤ 256 ∧ kk = 256 - c ∧ x = .slice a m cp ∧ y = .int .i64 (c : Int) ∧ Below B w wr ∧ Own wr 3 1 B a m cp (N64 (wayP b c)))
  case atStart => exact ⟨0, 0, none, 0, Nat.zero_le _, rfl, rfl, rfl, Below.refl _ _, by simp [wayP, csort, N64]; exact Own.nil _ _ _ _⟩
  case round =>
    obtain ⟨c, m, a, cp, hc, rfl, rfl, rfl, hbr, oa⟩ := hrel
    rename World => wo
    by_cases hlt : c < 256
    · have hc2 : (c : Int) < 256 := by omega
      go_wp2_with fail
      go_loopg [3, 5] n (fun kk x y wr => ∃ (i m : Nat) (a : Option Addr) (cp : Nat), i ≤ n ∧ kk = n - i ∧ x = .slice a m cp ∧ y = .int .i64 (i : Int) ∧ Below B w wr ∧ Own wr 3 1 B a m cp (N64 (wayP b c ++ (List.range i).filter fun j => kyB b j == c)))
      case atStart => exact ⟨0, m, a, cp, Nat.zero_le _, by simp, rfl, rfl, hbr, by simpa using oa⟩
      case round =>
        obtain ⟨i, m2, a2, cp2, hi, rfl, rfl, rfl, hbi, oi⟩ := hrel
        rename World => wi
        clear oa
        have hBi : B ≤ wi.heap.size := by have := hbi.size; rw [HB.out] at this; exact this
        by_cases hil : i < n
        · have hbw : Below w.heap.size w wi := by rw [HB.out]; exact hbi
          obtain ⟨nx, cx⟩ := (hb.below hbw).get8 hil
          rw [HKY.out] at cx
          obtain ⟨kv, hkv⟩ : ∃ k, kyB b i = k := ⟨_, rfl⟩
          have hk256 : kv < 256 := by rw [← hkv]; exact kyB_lt b i
          rw [hkv] at cx
          have hw1 : IntKind.i64.wrap (kv : Int) = (kv : Int) := IntWalk.i64_in _ (by omega)
          have hp := way_part b c i
          rw [hkv] at hp
          have HKV := Lib.hid hkv; clear hkv
          by_cases hkc : kv = c
          · subst hkc
            rw [if_pos rfl] at hp
            have HP := Lib.hid hp; clear hp
            have hm2 := oi.rd.lenN
            have hmn : m2 ≤ 100000 + 100000 := by
              have h1 := List.length_filter_le (fun j => kyB b j == kv) (List.range i)
              have h2 : (wayP b kv).length ≤ n := by
                rw [← HL.out]
                have h3 := ltC_all (kyB b) (List.range b.length) 256 (fun i _ => kyB_lt b i)
                have h4 : (wayP b kv).length = ltC (kyB b) (List.range b.length) kv := by rw [wayP, ← outS_all, outS_len _ _ _ (fun _ => Nat.le_refl _)]
                rw [h4]
                have h5 : ltC (kyB b) (List.range b.length) kv ≤ (List.range b.length).length := List.countP_le_length
                simpa using h5
              rw [List.length_append] at hm2
              simp at h1
              omega
            have HM := Lib.hid hm2; clear hm2
            go_wp2_with (refine wpList_push rfl _ _ _ rfl tI rfl rfl oi (ys := [.int .i64 (i : Int)]) rfl (by simp [Value.oneCell']) (by unfold maxLen; omega) (by omega) hBi ?_; intro a4 c4 w4 o4 g4 n4)
            have b4 := Own.grown hbi oi g4 hBi (Nat.le_refl _)
            go_roundg (n - (i + 1))
            case measure => omega
            case rel =>
              refine ⟨i + 1, m2 + 1, a4, c4, by omega, rfl, rfl, by simp, b4, ?_⟩
              rw [HP.out, ← List.append_assoc, ← N64_app]
              exact o4
          · rw [if_neg hkc, List.append_nil] at hp
            have HP := Lib.hid hp; clear hp
            go_wp2_with fail
            go_roundg (n - (i + 1))
            case measure => omega
            case rel => exact ⟨i + 1, m2, a2, cp2, by omega, rfl, rfl, by simp, hbi, by rw [HP.out]; exact oi⟩
        · obtain rfl : n = i := by omega
          have hw := wayP_succ b c
          rw [HL.out] at hw
          rw [← hw] at oi
          clear hw
          go_wp2_with fail
          go_roundg (256 - (c + 1))
          case measure => omega
          case rel => exact ⟨c + 1, m2, a2, cp2, by omega, rfl, rfl, by simp, hbi, oi⟩
    · obtain rfl : c = 256 := by omega
      have hm := oa.rd.lenN
      have hwl : (wayP b 256).length = n := by rw [← HL.out]; exact wayL_len b
      rw [hwl] at hm
      subst hm
      have hbw : Below w.heap.size w wo := by rw [HB.out]; exact hbr
      clear hwl
      go_wp2_with fail
      go_ret
      exact ⟨a, cp, rfl, by rw [HB.out]; exact oa, hbw⟩
end Go.Proofs.Ytjjdckbdjmbndaa
