/- FactorKnown. -/
import Derived.Test.YtnlemaaglbbdnaaFacJ
import Derived.Test.YtnlemaaglbbdnaaAppZ
namespace Go.Proofs.Ytnlemaaglbbdnaa
set_option linter.unusedSimpArgs false
set_option linter.unusedVariables false
open Go.RowKit Go.Shelf
attribute [local go_sem] Oper.semAt_some

theorem B8_zeros (n : Nat) : List.replicate n (Value.int .u8 0) = B8 (List.replicate n 0) := by simp [B8]
theorem B8_set (xs : List UInt8) (q : Nat) (c : UInt8) : (B8 xs).set q (.int .u8 (c.toNat : Int)) = B8 (xs.set q c) := by simp [B8, List.map_set]
/-- the text, filled as far as j -/
structure FarP (b : List UInt8) (f j : Nat) : Prop where
  len : b.length = f
  jf : 3 ≤ j ∧ j ≤ f
  h0 : at8 b 0 = 120
  h1 : at8 b 1 = 121
  h2 : at8 b 2 = 122
  no : ∀ k, 3 ≤ k → k < j → at8 b k ≠ 120
theorem FarP.set {b : List UInt8} {f j : Nat} (h : FarP b f j) (hj : j < f) {v : UInt8} (hv : v ≠ 120) : FarP (b.set j v) f (j + 1) := by
  have hs : ∀ k, at8 (b.set j v) k = if k = j then v else at8 b k := fun k => by
    simp only [at8, List.getD_eq_getElem?_getD, List.getElem?_set]
    by_cases e : j = k
    · subst e; rw [if_pos rfl, if_pos (by rw [h.len]; exact hj), if_pos rfl]; rfl
    · rw [if_neg e, if_neg (fun e' => e e'.symm)]
  have := h.jf
  refine ⟨by rw [List.length_set]; exact h.len, by omega, by rw [hs, if_neg (by omega)]; exact h.h0, by rw [hs, if_neg (by omega)]; exact h.h1, by rw [hs, if_neg (by omega)]; exact h.h2, fun k h1 h2 => ?_⟩
  rw [hs]
  by_cases e : k = j
  · rw [if_pos e]; exact hv
  · rw [if_neg e]; exact h.no k h1 (by omega)
theorem FarP.done {b : List UInt8} {f : Nat} (h : FarP b f f) : FarT (b ++ [120, 121, 122]) f := by
  have hl := h.len
  have hj := h.jf
  have ha : ∀ k, k < f → at8 (b ++ [120, 121, 122]) k = at8 b k := fun k hk => by
    simp only [at8, List.getD_eq_getElem?_getD]; rw [List.getElem?_append_left (by omega)]
  have hz : ∀ k, at8 (b ++ [120, 121, 122]) (f + k) = at8 [120, 121, 122] k := fun k => by
    simp only [at8, List.getD_eq_getElem?_getD]; rw [List.getElem?_append_right (by omega), hl, Nat.add_sub_cancel_left]
  exact ⟨by simp [hl], by omega, by rw [ha _ (by omega)]; exact h.h0, by rw [ha _ (by omega)]; exact h.h1, by rw [ha _ (by omega)]; exact h.h2, by have := hz 0; exact this, hz 1, hz 2, fun k h1 h2 => by rw [ha k h2]; exact h.no k h1 h2⟩

set_option maxRecDepth 100000 in
set_option maxHeartbeats 8000000 in
theorem factorKnown_law (w : World) : Calls Try.prog 5 #[] w fun e w' => e = .returned (.bool true) ∧ Below w.heap.size w w' := by
  have kc := fun (w : World) (C : Array Value) (n c : Nat) => Lib.run_convert_bytes_const (P := Try.prog) w 22 5 C n c Try.underlying22 Try.underlying5
  obtain ⟨oa, hoa⟩ := ordE [97, 98, 97, 98, 97, 98, 99]
  obtain ⟨ob, hob⟩ := ordE [97, 98, 99, 97, 98, 100]
  obtain ⟨oc, hoc⟩ := ordE [97, 97, 97, 97]
  obtain ⟨od, hod⟩ := ordE []
  obtain ⟨oz, hoz⟩ := ordE (zer 600)
  obtain ⟨z1, z2, z3, hz⟩ := knZ hoz
  have ha := Lib.hid (knA hoa)
  have hb := Lib.hid (knB hob)
  have hc := Lib.hid (knC hoc)
  have hd := Lib.hid (knD hod)
  have HZ := Lib.hid hz
  have HOA := Lib.hid hoa
  have HOB := Lib.hid hob
  have HOC := Lib.hid hoc
  have HOD := Lib.hid hod
  have HOZ := Lib.hid hoz
  clear hoa hob hoc hod hoz hz
  go_enter Try.func5, Try.ntmps5
  go_wp2_with fail
  refine (factor_known w _ [97, 98, 97, 98, 97, 98, 99] (by decide) oa HOA.out 2 (by decide) _ ha.out 2 rfl).mono ?_
  rintro e w1 ⟨aa, ca, rfl, o1, b1⟩
  go_wp2_with fail
  refine (factor_known w1 _ [97, 98, 99, 97, 98, 100] (by decide) ob HOB.out 3 (by decide) _ hb.out 3 rfl).mono ?_
  rintro e w2 ⟨ab, cb, rfl, o2, b2⟩
  have b12 := b1.trans (b2.mono b1.size)
  have t1 := o1.below b2
  clear o1 b1 b2
  go_wp2_with fail
  refine (factor_known w2 _ [97, 97, 97, 97] (by decide) oc HOC.out 0 (by decide) _ hc.out 2 rfl).mono ?_
  rintro e w3 ⟨ac, cc, rfl, o3, b3⟩
  have b13 := b12.trans (b3.mono b12.size)
  have t2 := o2.below b3
  replace t1 := t1.below b3
  clear o2 b12 b3
  go_wp2_with fail
  refine (factor_law w3 none 0 0 [] (Own.nil w3 5 1 0).rd (by decide) od HOD.out 0 (by decide) 0 (by decide)).mono ?_
  rw [hd.out]
  rintro e w4 ⟨ad, cd, rfl, o4, b4⟩
  have b14 := b13.trans (b4.mono b13.size)
  have t3 := o3.below b4
  replace t1 := t1.below b4
  replace t2 := t2.below b4
  clear o3 o4 b13 b4
  go_wp2_with fail
  refine (factor_bad _ _ 2 2 3 0 (by unfold FBad; omega)).mono ?_
  rintro e wq ⟨rfl, rfl⟩
  replace b14 := b14.alloc b14.size (.cells #[.int .u8 97, .int .u8 98] 5 (2, 3))
  replace t1 := t1.alloc (.cells #[.int .u8 97, .int .u8 98] 5 (2, 3))
  replace t2 := t2.alloc (.cells #[.int .u8 97, .int .u8 98] 5 (2, 3))
  replace t3 := t3.alloc (.cells #[.int .u8 97, .int .u8 98] 5 (2, 3))
  generalize w4.alloc (.cells #[.int .u8 97, .int .u8 98] 5 (2, 3)) = w5 at *
  go_wp2_with fail
  refine (factor_bad _ _ 2 2 (-1) 0 (by unfold FBad; omega)).mono ?_
  rintro e wq ⟨rfl, rfl⟩
  replace b14 := b14.alloc b14.size (.cells #[.int .u8 97, .int .u8 98] 5 (2, 3))
  replace t1 := t1.alloc (.cells #[.int .u8 97, .int .u8 98] 5 (2, 3))
  replace t2 := t2.alloc (.cells #[.int .u8 97, .int .u8 98] 5 (2, 3))
  replace t3 := t3.alloc (.cells #[.int .u8 97, .int .u8 98] 5 (2, 3))
  generalize w5.alloc (.cells #[.int .u8 97, .int .u8 98] 5 (2, 3)) = w6 at *
  go_wp2_with fail
  refine (factor_bad _ _ 2 2 0 (-1) (by unfold FBad; omega)).mono ?_
  rintro e wq ⟨rfl, rfl⟩
  replace b14 := b14.alloc b14.size (.cells #[.int .u8 97, .int .u8 98] 5 (2, 3))
  replace t1 := t1.alloc (.cells #[.int .u8 97, .int .u8 98] 5 (2, 3))
  replace t2 := t2.alloc (.cells #[.int .u8 97, .int .u8 98] 5 (2, 3))
  replace t3 := t3.alloc (.cells #[.int .u8 97, .int .u8 98] 5 (2, 3))
  generalize w6.alloc (.cells #[.int .u8 97, .int .u8 98] 5 (2, 3)) = w7 at *
  go_wp2_with fail
  refine (factor_bad _ _ 2 2 0 1048577 (by unfold FBad; omega)).mono ?_
  rintro e wq ⟨rfl, rfl⟩
  replace b14 := b14.alloc b14.size (.cells #[.int .u8 97, .int .u8 98] 5 (2, 3))
  replace t1 := t1.alloc (.cells #[.int .u8 97, .int .u8 98] 5 (2, 3))
  replace t2 := t2.alloc (.cells #[.int .u8 97, .int .u8 98] 5 (2, 3))
  replace t3 := t3.alloc (.cells #[.int .u8 97, .int .u8 98] 5 (2, 3))
  generalize w7.alloc (.cells #[.int .u8 97, .int .u8 98] 5 (2, 3)) = w8 at *
  go_wp2_with (refine wpList_mk rfl _ _ _ rfl elB rfl rfl 98305 rfl rfl rfl rfl (by unfold maxLen; omega) (by omega) ?_; intro w9 o9 b9 s9; have S9 := Lib.hid s9; clear s9)
  refine (factor_bad _ _ 98305 98305 0 0 (by unfold FBad; omega)).mono ?_
  rintro e wq ⟨rfl, rfl⟩
  have tA := t1.below b9
  have tB := t2.below b9
  have tC := t3.below b9
  have bX := b14.trans (b9.mono b14.size)
  clear t1 t2 t3 b14 b9 o9 S9
  obtain ⟨ga, rfl, _⟩ := own_some tA (by decide)
  obtain ⟨gb, rfl, _⟩ := own_some tB (by decide)
  obtain ⟨gc, rfl, _⟩ := own_some tC (by decide)
  have rA := tA.rd
  have rB := tB.rd
  have rC := tC.rd
  have a0 := rA.cellAt (j := 0) rfl
  have a1 := rA.cellAt (j := 1) rfl
  have a2 := rA.cellAt (j := 2) rfl
  have e2 := rB.cellAt (j := 2) rfl
  have c3 := rC.cellAt (j := 3) rfl
  have c4 := rC.cellAt (j := 4) rfl
  have c5 := rC.cellAt (j := 5) rfl
  rw [sAt_lit] at a0 a1 a2 e2 c3 c4 c5
  have nq1 := fun w => neq_tok w 4 2 0
  have nq2 := fun w => neq_tok w 3 1 0
  clear tA tB tC rA rB rC
  go_wp2_with fail
  clear nq1 nq2 a0 a1 a2 e2 c3 c4 c5 ha hb hc hd HOA HOB HOC HOD
  go_loopg [19] 3 (fun k v19 wr => ∃ f : Nat, 32767 ≤ f ∧ f ≤ 32770 ∧ 32770 - f = k ∧ v19 = .int .i64 (f : Int) ∧ Below w.heap.size w wr)
  case atStart => exact ⟨32767, by decide, by decide, rfl, rfl, bX⟩
  case round =>
    clear bX w9
    obtain ⟨f, hf1, hf2, rfl, rfl, bw⟩ := hrel
    rename World => wr
    by_cases hlt : f < 32770
    · obtain ⟨m, hm⟩ : ∃ m, f - 3 = m := ⟨_, rfl⟩
      have hm3 : (f : Int) - 3 = (m : Int) := by omega
      have HM := Lib.hid hm; clear hm
      go_upto_region 16 with (refine wpList_appz rfl _ _ _ _ rfl elB rfl rfl Try.underlying3 rfl rfl (Rd.lit8 wr (3, 4) [120, 121, 122] (by decide)) (k := m) (by have := HM.out; omega) (by have := HM.out; omega) (by unfold maxLen; have := HM.out; omega) (by have := HM.out; omega) ?_; intro cq wq oq bq sq; have SQ := Lib.hid sq; clear sq)
      have hsz : (wr.alloc (.cells #[.int .u8 120, .int .u8 121, .int .u8 122] 5 (3, 4))).heap.size = wr.heap.size + 1 := by simp
      rw [hsz] at oq bq
      have bz : Below w.heap.size w wq := (bw.alloc bw.size (.cells #[.int .u8 120, .int .u8 121, .int .u8 122] 5 (3, 4))).trans (bq.mono (by have := bw.size; omega))
      have hGB : w.heap.size ≤ wr.heap.size + 1 := by have := bw.size; omega
      obtain ⟨G, hG⟩ : ∃ G, wr.heap.size + 1 = G := ⟨_, rfl⟩
      rw [hG] at oq hGB ⊢
      have e3 : 3 + m = f := by have := HM.out; omega
      rw [e3] at oq ⊢
      rw [B8_zeros m, B8_app] at oq
      obtain ⟨b0, hb0⟩ : ∃ b0 : List UInt8, [120, 121, 122] ++ List.replicate m 0 = b0 := ⟨_, rfl⟩
      have P0 : FarP b0 f 3 := by rw [← hb0]; exact ⟨by simp; omega, by omega, rfl, rfl, rfl, fun k h1 h2 => by omega⟩
      rw [hb0] at oq
      clear hb0 bw bq hsz hG SQ e3 HM hm3
      go_upto_region 17 with fail
      go_loopg [21] (f - 3) (fun k v21 wx => ∃ (j : Nat) (b : List UInt8), FarP b f j ∧ f - j = k ∧ v21 = .int .i64 (j : Int) ∧ Below w.heap.size w wx ∧ Own wx 5 1 G (some ⟨G, 0, none⟩) f cq (B8 b))
      case atStart => exact ⟨3, b0, P0, rfl, rfl, bz, oq⟩
      case round =>
        obtain ⟨j, b, hP, rfl, rfl, bw, ow⟩ := hrel
        clear bz oq P0
        rename World => wx
        by_cases hj : j < f
        · obtain ⟨r1, r2⟩ := Own.read ow (j := j) (B8_get b j (by rw [hP.len]; exact hj))
          have hjf : (j : Int) < (f : Int) := by omega
          have hj32 : j < 32770 := by omega
          go_upto_region 19 with fail
          go_wp2_with fail
          have hv : ((j : Int) % 7 + (j : Int) / 7 % 11 * 7) = ((UInt8.ofNat (fil j)).toNat : Int) := by
            have := fil_lt j
            rw [UInt8.toNat_ofNat', Nat.mod_eq_of_lt (by omega)]; unfold fil; omega
          have hv2 : UInt8.ofNat (fil j) ≠ 120 := fun e => by
            have := fil_lt j
            have h := congrArg UInt8.toNat e
            rw [UInt8.toNat_ofNat', Nat.mod_eq_of_lt (by omega)] at h
            have : (120 : UInt8).toNat = 120 := rfl
            omega
          have ow2 : Own (wx.setCell ⟨G, j, none⟩ (.int .u8 ((j : Int) % 7 + (j : Int) / 7 % 11 * 7))) 5 1 G (some ⟨G, 0, none⟩) f cq (B8 (b.set j (UInt8.ofNat (fil j)))) := by
            rw [hv, ← B8_set]; exact ow.set j _ rfl
          go_roundg (f - (j + 1))
          case measure => omega
          case rel => exact ⟨j + 1, _, hP.set hj hv2, rfl, by go_num, bw.setCell hGB _, ow2⟩
        · obtain rfl : j = f := by have := hP.jf; omega
          have hT := hP.done
          clear hP
          go_upto_region 21 with (refine wpList_apps rfl _ _ _ _ rfl elB Try.underlying9 rfl rfl ow (by unfold maxLen; show j + 3 ≤ _; omega) (by show j + 3 ≤ _; omega) (by have := (ow.blk rfl).2; omega) ?_; intro a3 c3 wy o3 gr3)
          have b3 := Own.grown bw ow gr3 bw.size hGB
          rw [show Lib.strCells ⟨#[120, 121, 122]⟩ = B8 [120, 121, 122] from rfl, B8_app] at o3
          generalize b ++ [120, 121, 122] = B at *
          clear ow gr3 bw
          obtain ⟨o, ho⟩ := ordE B
          have hfar := hT.far ho
          have hnear := hT.near ho
          have hfl := factor_law wy a3 (j + 3) c3 B o3.rd (by omega) o ho j (by omega) 0 (by decide)
          clear ho hT
          generalize facT B o 0 j = ts at *
          by_cases hj8 : j ≤ 32768
          · have hts := hnear hj8
            subst hts
            clear hfar hnear
            have hj9 : (j : Int) ≤ 32768 := by omega
            go_upto_region 22 with fail
            refine hfl.mono ?_
            rintro e wz ⟨a5, c5, rfl, o5, b5⟩
            have b6 := b3.trans (b5.mono b3.size)
            obtain ⟨g5, rfl, _⟩ := own_some o5 (by simp)
            have r5 := o5.rd
            have y0 := r5.cellAt (j := 0) rfl
            have y1 := r5.cellAt (j := 1) rfl
            have y2 := r5.cellAt (j := 2) rfl
            rw [sAt_lit] at y0 y1 y2
            have nq := fun w => neq_tok w 3 (j : Int) 0
            clear r5 o5 b5 o3 b3 hfl
            go_wp2_with fail
            go_roundg (32770 - (j + 1))
            case measure => omega
            case rel => exact ⟨j + 1, by omega, by omega, rfl, by go_num, b6⟩
          · have hts := hfar (by omega)
            clear hfar hnear
            rw [hts] at hfl
            have hj9 : ¬ (j : Int) ≤ 32768 := by omega
            go_upto_region 22 with fail
            refine hfl.mono ?_
            rintro e wz ⟨a5, c5, rfl, o5, b5⟩
            have b6 := b3.trans (b5.mono b3.size)
            clear o5 b5 o3 b3 hfl
            go_wp2_with fail
            go_roundg (32770 - (j + 1))
            case measure => omega
            case rel => exact ⟨j + 1, by omega, by omega, rfl, by go_num, b6⟩
    · obtain rfl : f = 32770 := by omega
      go_upto_region 24 with fail
      go_wp2_with (refine wpList_mk rfl _ _ _ rfl elB rfl rfl 600 rfl rfl rfl rfl (by unfold maxLen; omega) (by omega) ?_; intro wm om bm sm; have SM := Lib.hid sm; clear sm)
      rw [B8_zeros 600] at om
      have bn := bw.trans (bm.mono bw.size)
      refine (factor_law wm _ 600 600 (zer 600) om.rd (by decide) oz HOZ.out 0 (by decide) 0 (by decide)).mono ?_
      rw [HZ.out]
      rintro e wz ⟨a5, c5, rfl, o5, b5⟩
      have b6 := bn.trans (b5.mono bn.size)
      obtain ⟨g5, rfl, _⟩ := own_some o5 (by simp)
      have r5 := o5.rd
      have y0 := r5.cellAt (j := 3) rfl
      have y1 := r5.cellAt (j := 6) rfl
      have y2 := r5.cellAt (j := 9) rfl
      rw [sAt_lit] at y0 y1 y2
      clear r5 o5 b5 om bm bn SM
      go_wp2_with fail
      refine (tells_any wz).mono ?_
      rintro e w9 ⟨rfl, b9⟩
      go_wp2_with fail
      go_ret
      exact ⟨rfl, b6.trans (b9.mono b6.size)⟩
end Go.Proofs.Ytnlemaaglbbdnaa
