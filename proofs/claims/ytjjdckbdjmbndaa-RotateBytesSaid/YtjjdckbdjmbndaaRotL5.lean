/- The law RotateBytes, walked. -/
import Derived.Test.YtjjdckbdjmbndaaRotD
namespace Go.Proofs.Ytjjdckbdjmbndaa
set_option linter.unusedSimpArgs false
set_option linter.unusedVariables false
open Go.RowKit

def rowI (f : Nat → Int) (m : Nat) : List Int := (List.range m).map f
theorem rowI_len (f : Nat → Int) (m : Nat) : (rowI f m).length = m := by simp [rowI]
theorem atI_row (f : Nat → Int) (m k : Nat) (h : k < m) : atI (rowI f m) k = f k := by simp [atI, rowI, List.getD_eq_getElem?_getD, h]
theorem rowI_set (f g : Nat → Int) (m j : Nat) (v : Int) (h : ∀ k, k < m → g k = if k = j then v else f k) : (rowI f m).set j v = rowI g m := by
  apply List.ext_getElem (by simp [rowI_len])
  intro k h1 h2
  rw [rowI_len] at h2
  rw [List.getElem_set]
  simp only [rowI, List.getElem_map, List.getElem_range]
  rw [h k h2]
  by_cases e : j = k
  · rw [if_pos e, if_pos e.symm]
  · rw [if_neg e, if_neg (Ne.symm e)]
theorem zerosI (m : Nat) : I64 (rowI (fun _ => 0) m) = N64 (List.replicate m 0) := by
  rw [N64_I64]
  refine congrArg I64 (List.ext_getElem (by simp [rowI_len]) fun k h1 h2 => ?_)
  simp [rowI]
theorem Own.setI {w : World} {e lo g n cap : Nat} {xs : List Int} (h : Own w e 1 lo (some ⟨g, 0, none⟩) n cap (I64 xs)) (j : Nat) (v : Int) : Own (w.setCell ⟨g, j, none⟩ (.int .i64 v)) e 1 lo (some ⟨g, 0, none⟩) n cap (I64 (xs.set j v)) := by
  have := h.set j (.int .i64 v) rfl
  rwa [show (I64 xs).set j (.int .i64 v) = I64 (xs.set j v) by simp [I64, List.map_set]] at this
/-- how often a byte stands among the first j -/
def cntB (b : List UInt8) (c : Nat) (j : Nat) : Nat := (List.range j).countP fun i => kyB b i == c
theorem cntB_succ (b : List UInt8) (c j : Nat) : cntB b c (j + 1) = cntB b c j + if kyB b j = c then 1 else 0 := by
  rw [cntB, List.range_succ, List.countP_append]; simp [cntB, List.countP_cons]
theorem cntB_le (b : List UInt8) (c j : Nat) : cntB b c j ≤ j := by
  have : (List.range j).countP (fun i => kyB b i == c) ≤ (List.range j).length := List.countP_le_length
  simpa [cntB] using this
/-- the last bytes are the text's -/
theorem cnt_last {b : List UInt8} {o : List Nat} (ho : Ordered b true o) (c : Nat) : cntB (lastL b o) c b.length = cntB b c b.length := by
  by_cases hn : b.length = 0
  · simp [cntB, hn]
  have h1 := bij_count b.length (fun p => (atN o p + b.length - 1) % b.length) (fun p _ => Nat.mod_lt _ (by omega)) (fun p q hp hq e => by
    have a1 := ho.ord.lt hp
    have a2 := ho.ord.lt hq
    have hv : ∀ x, x < b.length → (x + b.length - 1) % b.length = if x = 0 then b.length - 1 else x - 1 := fun x hx => by
      split
      · rename_i h; rw [h, Nat.zero_add, Nat.mod_eq_of_lt (by omega)]
      · rw [show x + b.length - 1 = (x - 1) + b.length by omega, Nat.add_mod_right, Nat.mod_eq_of_lt (by omega)]
    rw [hv _ a1, hv _ a2] at e
    have e2 : atN o p = atN o q := by split at e <;> split at e <;> omega
    exact ho.ord.inj hp hq e2) (fun x => kyB b x == c)
  rw [cntB, cntB, ← h1]
  refine List.countP_congr fun p hp => ?_
  rw [kyB, lastL_at ho (List.mem_range.1 hp)]; rfl

set_option maxRecDepth 100000 in
set_option maxHeartbeats 4000000 in
theorem rotateBytes_law (w : World) (ad : Option Addr) (n cap : Nat) (b : List UInt8) (hb : Rd w 1 ad n cap (B8 b)) :
    Calls Try.prog 7 #[.slice ad n cap] w fun e w' => e = .returned (.bool true) ∧ Below w.heap.size w w' := by
  have hl := hb.len8
  have HL := Lib.hid hl; clear hl
  by_cases hn : 3000 < n
  · go_enter Try.func7, Try.ntmps7
    go_wp2
    go_ret
    exact ⟨rfl, Below.refl _ _⟩
  · go_enter Try.func7, Try.ntmps7
    go_wp2_with fail
    refine (turn_law _ _ _ _ b hb (by omega)).mono ?_
    rintro e w2 ⟨a2, k2, o2, rfl, ord2, own2, c2⟩
    have hzl := zeroP_lt o2 n
    generalize zeroP o2 n = z at *
    have hcl := fun c => cnt_last ord2 c
    rw [HL.out] at hcl
    have HCL := Lib.hid hcl; clear hcl
    have hky8 : ∀ (x : List UInt8) j, (at8 x j).toNat = kyB x j := fun x j => rfl
    have HKY := Lib.hid hky8; clear hky8
    clear ord2
    generalize lastL b o2 = lb at *
    obtain ⟨B, hB⟩ : ∃ B, w2.heap.size = B := ⟨_, rfl⟩
    have HB := Lib.hid hB; clear hB
    have hmx : (if (1 : Int) < (n : Int) then (n : Int) else 1) = ((max 1 n : Nat) : Int) := by
      split <;> omega
    have hmx2 : ¬ ((max 1 n : Nat) : Int) ≤ (z : Int) := by omega
    have hmx3 : ¬ (z : Int) < 0 := by omega
    generalize max 1 n = mx at *
    go_wp2_with (refine wpList_mk rfl _ _ _ rfl tI rfl rfl 256 rfl rfl rfl rfl (by decide) (by decide) ?_; intro w3 o3 b3 s3; have S3 := Lib.hid s3; clear s3)
    rw [N64_zeros] at o3
    clear hmx hmx2 hmx3
    have c3 := c2.trans (b3.mono c2.size)
    have rl := own2.rd.below b3
    have hw3 : w2.heap.size < w3.heap.size := by rw [S3.out]; omega
    rw [HB.out] at o3 hw3 ⊢
    have HBw : Hid (w.heap.size ≤ B) := Lib.hid (by rw [← HB.out]; exact c2.size)
    have ha2 : ∀ a, a2 = some a → a.block < B := fun a ha => by
      have h1 := own2.shape a ha
      have h2 := (own2.blk (g := a.block) (by rw [ha, ← h1])).2
      rw [HB.out] at h2; exact h2
    have HA2 := Lib.hid ha2; clear ha2
    clear own2 b3 c2
    have i0 : I64 (rowI (fun c => ((cntB b c 0 : Nat) : Int) - ((cntB lb c 0 : Nat) : Int)) 256) = N64 (List.replicate 256 0) := by
      rw [← zerosI]
      exact congrArg I64 (List.map_congr_left fun c _ => by simp [cntB])
    go_loopg [6] n (fun k i wr => ∃ j : Nat, j ≤ n ∧ k = n - j ∧ i = .int .i64 (j : Int) ∧ Below w.heap.size w wr ∧ B < wr.heap.size ∧ Rd wr 1 a2 n k2 (B8 lb) ∧ Own wr 3 1 B (some ⟨B, 0, none⟩) 256 256 (I64 (rowI (fun c => ((cntB b c j : Nat) : Int) - ((cntB lb c j : Nat) : Int)) 256)))
    case atStart => exact ⟨0, Nat.zero_le _, by simp, rfl, c3, hw3, rl, by rw [i0]; exact o3⟩
    case round =>
      clear o3 rl hw3 c3 i0
      obtain ⟨j, hj, rfl, rfl, hbr, hBr, rlr, oa⟩ := hrel
      rename World => wr
      by_cases hlt : j < n
      · obtain ⟨nb, cb⟩ := (hb.below hbr).get8 hlt
        obtain ⟨nl, cl⟩ := rlr.get8 hlt
        rw [HKY.out] at cb cl
        have kb1 := kyB_lt b j
        have kl1 := kyB_lt lb j
        have sb := fun c => cntB_succ b c j
        have sl := fun c => cntB_succ lb c j
        have q1 := fun c => cntB_le b c j
        have q2 := fun c => cntB_le lb c j
        generalize kyB b j = kb at *
        generalize hkl : kyB lb j = kl at *
        have HKL := Lib.hid hkl; clear hkl
        obtain ⟨cv, fv⟩ := oa.getI (k := kb) kb1
        rw [atI_row _ _ _ kb1] at cv
        have o1 := oa.setI kb ((((cntB b kb j : Nat) : Int) - ((cntB lb kb j : Nat) : Int)) + 1)
        rw [rowI_set _ (fun c => ((cntB b c j : Nat) : Int) - ((cntB lb c j : Nat) : Int) + if c = kb then 1 else 0) _ _ _ (fun c hc => by
          by_cases e : c = kb
          · subst e; simp
          · simp [e])] at o1
        obtain ⟨cw, fw⟩ := o1.getI (k := kl) kl1
        rw [atI_row _ _ _ kl1] at cw
        have o2 := o1.setI kl ((((cntB b kl j : Nat) : Int) - ((cntB lb kl j : Nat) : Int) + if kl = kb then 1 else 0) - 1)
        rw [rowI_set _ (fun c => ((cntB b c (j + 1) : Nat) : Int) - ((cntB lb c (j + 1) : Nat) : Int)) _ _ _ (fun c hc => by
          rw [sb, sl]
          by_cases e : c = kl
          · subst e
            simp only [if_true]
            by_cases e2 : c = kb
            · subst e2; simp; omega
            · simp [e2, Ne.symm e2]; omega
          · rw [if_neg e, if_neg (Ne.symm e)]
            by_cases e2 : c = kb
            · subst e2; simp; omega
            · simp [e2, Ne.symm e2])] at o2
        have hv1 : -3000 ≤ (((cntB b kb j : Nat) : Int) - ((cntB lb kb j : Nat) : Int)) ∧ (((cntB b kb j : Nat) : Int) - ((cntB lb kb j : Nat) : Int)) ≤ 3000 := by have := q1 kb; have := q2 kb; omega
        have hv2 : -3000 ≤ (((cntB b kl j : Nat) : Int) - ((cntB lb kl j : Nat) : Int) + if kl = kb then 1 else 0) ∧ (((cntB b kl j : Nat) : Int) - ((cntB lb kl j : Nat) : Int) + if kl = kb then 1 else 0) ≤ 3001 := by have := q1 kl; have := q2 kl; split <;> omega
        clear sb sl q1 q2
        generalize (((cntB b kl j : Nat) : Int) - ((cntB lb kl j : Nat) : Int) + if kl = kb then 1 else 0) = v2 at *
        generalize (((cntB b kb j : Nat) : Int) - ((cntB lb kb j : Nat) : Int)) = v1 at *
        have hb1 : Below B wr (wr.setCell ⟨B, kb, none⟩ (.int .i64 (v1 + 1))) := (Below.refl B wr).setCell (Nat.le_refl _) _
        have h2b : Below w.heap.size w ((wr.setCell ⟨B, kb, none⟩ (.int .i64 (v1 + 1))).setCell ⟨B, kl, none⟩ (.int .i64 (v2 - 1))) := (hbr.setCell (by have := HBw.out; simp; omega) _).setCell (by have := HBw.out; simp; omega) _
        have ha2 := HA2.out
        have rl1 := rlr.setOther ⟨B, kb, none⟩ (.int .i64 (v1 + 1)) (fun a ha => by have := ha2 a ha; simp; omega)
        have rl2 := rl1.setOther ⟨B, kl, none⟩ (.int .i64 (v2 - 1)) (fun a ha => by have := ha2 a ha; simp; omega)
        have cl1 : (wr.setCell ⟨B, kb, none⟩ (.int .i64 (v1 + 1))).cell? (sAt a2 j) = some (.int .u8 (kl : Int)) := by
          have h1 := rl1.cellAt (u := .int .u8 (kl : Int)) (j := j) (by
            rw [← HKL.out, ← HKY.out]; exact B8_get lb j (by have := rlr.len8; omega))
          exact h1
        have HS1 := Lib.hid rl2; clear rl2
        have HS2 := Lib.hid h2b; clear h2b
        have HS3 := Lib.hid o2; clear o2
        clear o1 rl1 rlr oa hb1 ha2 hbr
        have hk1 : (kb : Int) < 256 := by omega
        have hk2 : (kl : Int) < 256 := by omega
        have hw1 : IntKind.i64.wrap (v1 + 1) = v1 + 1 := IntWalk.i64_in _ (by omega)
        have hw2 : IntKind.i64.wrap (v2 - 1) = v2 - 1 := IntWalk.i64_in _ (by omega)
        go_wp2_with fail
        go_roundg (n - (j + 1))
        case measure => omega
        case rel => exact ⟨j + 1, by omega, rfl, by simp, HS2.out, by simpa using hBr, HS1.out, HS3.out⟩
      · obtain rfl : n = j := by omega
        clear rlr hlt hj
        rw [show rowI (fun c => ((cntB b c n : Nat) : Int) - ((cntB lb c n : Nat) : Int)) 256 = rowI (fun _ => 0) 256 from List.map_congr_left fun c _ => by rw [HCL.out]; omega] at oa
        go_wp2_with fail
        go_loopg [7] 256 (fun k i wq => ∃ j : Nat, j ≤ 256 ∧ k = 256 - j ∧ i = .int .i64 (j : Int) ∧ Below wr.heap.size wr wq)
        case atStart => exact ⟨0, Nat.zero_le _, by simp, by simp, Below.refl _ _⟩
        case round =>
          obtain ⟨j, hj, rfl, rfl, hbq⟩ := hrel
          rename World => wq
          have oq := oa.below hbq
          by_cases hlt : j < 256
          · obtain ⟨c0, _⟩ := oq.getI hlt
            rw [atI_row _ _ _ hlt] at c0
            have hj2 : (j : Int) < 256 := by omega
            go_wp2_with fail
            go_roundg (256 - (j + 1))
            case measure => omega
            case rel => exact ⟨j + 1, by omega, rfl, by simp, hbq⟩
          · obtain rfl : j = 256 := by omega
            have c4 := hbr.trans (hbq.mono hbr.size)
            clear oq hbq hlt hj
            go_wp2_with fail
            refine (turns_any _).mono ?_
            rintro e w8 ⟨rfl, b8⟩
            have c8 := c4.trans (b8.mono c4.size)
            clear c4 b8
            go_wp2
            go_ret
            exact ⟨rfl, c8⟩
end Go.Proofs.Ytjjdckbdjmbndaa
