/- FrontKnown. -/
import Derived.Test.YtindbmfccgeikaaFroR
namespace Go.Proofs.Ytindbmfccgeikaa
set_option linter.unusedSimpArgs false
set_option linter.unusedVariables false
open Go.RowKit
attribute [local go_sem] Oper.semAt_some

theorem cell_below {w w' : World} {x : Addr} {v : Value} (h : w.cell? x = some v) (hb : Below w.heap.size w w') : w'.cell? x = some v := by
  have hlt : x.block < w.heap.size := by
    rcases Nat.lt_or_ge x.block w.heap.size with h1 | h1
    · exact h1
    · exfalso
      have h2 : w.heap[x.block]? = none := Array.getElem?_eq_none h1
      unfold World.cell? at h
      rw [h2] at h; cases h
  rw [World.cell?_of_block (w := w) (hb.block _ hlt)]; exact h
theorem put_nilk : putL [] = [1] := by unfold putL; rw [usedL_nil, putS, digL_zero]; rfl
theorem zeros_snoc (k : Nat) : List.replicate k (Value.int .i64 0) ++ [.int .i64 2] = I64 (List.replicate k 0 ++ [2]) := by simp [I64]
theorem toI_N64k (xs : List Nat) : I64 (toI xs) = N64 xs := by simp [toI, I64, N64, Function.comp_def]
theorem B8_zerosk (n : Nat) : List.replicate n (Value.int .u8 0) = B8 (List.replicate n 0) := by simp [B8]
theorem B8_setk (xs : List UInt8) (q : Nat) (c : UInt8) : (B8 xs).set q (.int .u8 (c.toNat : Int)) = B8 (xs.set q c) := by simp [B8, List.map_set]
theorem falF_nat (j : Nat) (h : j < 256) : ((falF j).toNat : Int) = 255 - (j : Int) := by
  have : (falF j).toNat = 255 - j := by simp [falF]; omega
  omega

set_option maxRecDepth 100000 in
set_option maxHeartbeats 8000000 in
theorem frontKnown_law (w : World) :
    Calls Try.prog 8 #[] w fun e w' => e = .returned (.bool true) ∧ Below w.heap.size w w' := by
  have kc := fun (w : World) (C : Array Value) (n c : Nat) => Lib.run_convert_bytes_const (P := Try.prog) w 22 5 C n c Try.underlying22 Try.underlying5
  refine (callsIn_wide (n := 9)).1 ?_
  refine callsIn_of_wp Try.func8 rfl trivial ?_ rfl
  simp only [Try.ntmps8, List.size_toArray, List.length_cons, List.length_nil, Nat.reduceAdd, Nat.reduceSub, Array.replicate_succ, Array.replicate_zero, List.push_toArray, List.append_toArray, List.nil_append, List.cons_append]
  gi_wp2
  have hput := put_law (w.alloc (.cells (B8 [110, 110, 98, 97, 97, 97]).toArray 5 (6, 7))) (some ⟨w.heap.size, 0, none⟩) 6 6 [110, 110, 98, 97, 97, 97] (Rd.rowM w 5 1 6 (6, 7) (B8 [110, 110, 98, 97, 97, 97]) rfl (by decide) (B8_one _)) (by decide)
  rw [nn_used, nn_put] at hput
  refine ⟨trivial, callsIn_wide.2 ?_⟩
  refine hput.mono ?_
  rintro e w1 ⟨a1, c1, a2, c2, rfl, o1, o2, b1⟩
  have u1 : Rd w1 1 a1 3 c1 (B8 [97, 98, 110]) := o1.rd
  have t1 : Rd w1 1 a2 6 c2 (I64 [3, 0, 3, 3, 1, 4]) := o2.rd
  have b01 := ((Below.refl _ w).alloc (Nat.le_refl _) (.cells (B8 [110, 110, 98, 97, 97, 97]).toArray 5 (6, 7))).trans (b1.mono (by simp))
  clear o1 o2 b1 hput
  dsimp only [List.length_cons, List.length_nil]
  gi_wp2_with (refine wpListIn_mk (fun _ => trivial) rfl _ _ _ rfl elB rfl rfl 256 rfl rfl rfl rfl (by unfold maxLen; omega) (by omega) ?_; intro w2 o2 b2 s2)
  obtain ⟨B, hB⟩ : ∃ B, w1.heap.size = B := ⟨_, rfl⟩
  have hw2 : B < w2.heap.size := by rw [s2.out]; omega
  rw [hB] at o2 b2 ⊢
  clear s2
  have HB := Lib.hid hB; clear hB
  rw [B8_zerosk 256] at o2
  gi_loopw [4] (fun v4 wr => ∃ j : Nat, j ≤ 256 ∧ v4 = .int .i64 (j : Int) ∧ Below B w1 wr ∧ B < wr.heap.size ∧ Own wr 5 1 B (some ⟨B, 0, none⟩) 256 256 (B8 (falL j ++ List.replicate (256 - j) 0))) (fun v4 _ => 256 - (intOf v4).toNat)
  case atStart => exact ⟨0, Nat.zero_le _, rfl, b2, hw2, by simpa [falL] using o2⟩
  case round =>
    clear o2 b2 hw2
    obtain ⟨j, hj, rfl, br, hBr, oa⟩ := hrel
    rename World => wr
    by_cases hlt : j < 256
    · obtain ⟨ca, fa⟩ := Own.read oa (j := j) (B8_get _ j (by simp [falL]; omega))
      have hv := falF_nat j hlt
      have os := oa.set j (.int .u8 ((falF j).toNat : Int)) rfl
      rw [B8_setk, falL_step j hlt] at os
      obtain ⟨q, hq⟩ : ∃ q, (falF j).toNat = q := ⟨_, rfl⟩
      rw [hq] at hv os
      have hq2 : q < 256 := by omega
      have hv2 : 255 - (j : Int) = (q : Int) := by omega
      have w8 : IntKind.u8.wrap (q : Int) = (q : Int) := by rw [IntKind.wrap_u8]; omega
      have hji : (j : Int) < 256 := by omega
      have bs := br.setCell (p := ⟨B, j, none⟩) (by simp) (.int .u8 (q : Int))
      clear oa br hq hv
      gi_wp2
      go_roundw
      case rel => exact ⟨j + 1, by omega, by simp, bs, by simpa using hBr, os⟩
      case measure => simp [intOf]; omega
    · obtain rfl : j = 256 := by omega
      rw [Nat.sub_self, List.replicate_zero, List.append_nil] at oa
      have hrd := oa.rd
      have hput := put_law wr (some ⟨B, 0, none⟩) 256 256 (falL 256) hrd (by decide)
      have hbk := back_ok (falL 256) (by rw [falL_len]; decide) 256 (by decide)
      rw [falL_len, if_neg (by decide)] at hbk
      have hu0 : (usedL (falL 256)).length = 256 := by rw [fal_used]; simp
      have hp0 : (putL (falL 256)).length = 257 := by rw [fal_put, List.length_append, List.length_replicate]; rfl
      have hua : at8 (usedL (falL 256)) 0 = 0 := by rw [fal_used]; decide +kernel
      have hpa : atI (toI (putL (falL 256))) 0 = 256 := by rw [fal_put]; decide +kernel
      generalize usedL (falL 256) = U at *
      generalize putL (falL 256) = P at *
      rw [hu0, hp0] at hput
      have HU0 := Lib.hid hu0; clear hu0
      have HP0 := Lib.hid hp0; clear hp0
      have HUA := Lib.hid hua; clear hua
      have HPA := Lib.hid hpa; clear hpa
      have HBK := Lib.hid hbk; clear hbk
      have br1 : Below w1.heap.size w1 wr := by rw [HB.out]; exact br
      have u3 := u1.below br1
      have t3 := t1.below br1
      have b03 := b01.trans (br1.mono b01.size)
      clear br1
      clear u1 t1 b01
      gi_wp2
      refine ⟨trivial, callsIn_wide.2 ?_⟩
      refine hput.mono ?_
      rintro e w4 ⟨a3, c3, a4, c4, rfl, o3, o4, b4⟩
      have v4 := o3.rd
      have y4 := o4.rd
      have x4 := hrd.below b4
      have u4 := u3.below b4
      have t4 := t3.below b4
      have b04 := b03.trans (b4.mono b03.size)
      clear hput hrd oa o3 o4 u3 t3 b03 b4 br hBr
      gi_wp2
      have hget := get_law w4 a3 256 c3 U v4 a4 257 c4 (toI P) (by rw [toI_N64k]; exact y4) 256 (by decide) (by decide) (by decide)
      refine ⟨trivial, callsIn_wide.2 ?_⟩
      refine hget.mono ?_
      rintro e w5 hg
      obtain ⟨a5, c5, rfl, o5, b5⟩ := hg.ok HBK.out
      have z5 := o5.rd
      have v5 := v4.below b5
      have y5 := y4.below b5
      have x5 := x4.below b5
      have u5 := u4.below b5
      have t5 := t4.below b5
      have b05 := b04.trans (b5.mono b04.size)
      clear hget hg o5 v4 y4 x4 u4 t4 b04 b5
      rw [falL_len] at z5
      simp only [falL_len]
      gi_wp2
      have hrow : (.slice (some ⟨w5.heap.size + 1 + 1 + 1 + 1 + 1 + 1 + 1 + 1 + 1 + 1 + 1 + 1 + 1 + 1, 0, none⟩) 15 15 : Value) = .slice (some ⟨w5.heap.size + 14, 0, none⟩) 15 15 := rfl
      refine use_world (W' := tabW 3 39 w5) rfl ?_
      obtain ⟨rt, rr, bt⟩ := tab_spec 3 39 w5
      have rg := rws_good fun i => some ⟨w5.heap.size + i, 0, none⟩
      have RR := Lib.hid rr; clear rr
      have RG := Lib.hid rg; clear rg
      rw [hrow]
      clear hrow
      obtain ⟨ad, had⟩ : ∃ ad : Option Addr, some ⟨w5.heap.size + 14, 0, none⟩ = ad := ⟨_, rfl⟩
      rw [had] at rt ⊢
      clear had
      have z6 := z5.below bt
      have v6 := v5.below bt
      have y6 := y5.below bt
      have x6 := x5.below bt
      have u6 := u5.below bt
      have t6 := t5.below bt
      have b06 := b05.trans (bt.mono b05.size)
      clear z5 v5 y5 x5 u5 t5 b05
      generalize tabW 3 39 w5 = w6 at *
      gi_loopw [10] (fun v10 wr => ∃ i : Nat, i ≤ 15 ∧ v10 = .int .i64 (i : Int) ∧ Below w6.heap.size w6 wr) (fun v10 _ => 15 - (intOf v10).toNat)
      case atStart => exact ⟨0, Nat.zero_le _, rfl, Below.refl _ _⟩
      case round =>
        obtain ⟨i, hi, rfl, bw⟩ := hrel
        rename World => wr
        by_cases hlt : i < 15
        · have rtw := rt.below bw
          have hne := rtw.ne (by decide)
          obtain ⟨r, hr, e0, e1, e2, e3, e4⟩ := tab_get rtw hlt
          have rs := (RR.out r hr).below bw
          obtain ⟨hgd, hl1, hl2, hl3, hl4⟩ := RG.out r hr
          obtain ⟨us, sad, ss, mo, out, ee⟩ := r
          dsimp only at e0 e1 e2 e3 e4 rs hgd hl1 hl2 hl3 hl4
          have HGD := Lib.hid hgd; clear hgd hr rtw
          have hli : (i : Int) < 15 := by omega
          clear z6 v6 y6 x6 u6 t6 rt
          gi_wp2
          have HS : Hid (∀ W', Below wr.heap.size wr.drew W' → (fun w' : World => w'.cell? (sAt ad (i * 5)) = some (.string (bstr us)) ∧ w'.cell? ⟨(sAt ad (i * 5)).block, (sAt ad (i * 5)).off + 1, none⟩ = some (.slice sad ss.length ss.length) ∧ w'.cell? ⟨(sAt ad (i * 5)).block, (sAt ad (i * 5)).off + 2, none⟩ = some (.int .i64 mo) ∧ w'.cell? ⟨(sAt ad (i * 5)).block, (sAt ad (i * 5)).off + 3, none⟩ = some (.string (bstr out)) ∧ w'.cell? ⟨(sAt ad (i * 5)).block, (sAt ad (i * 5)).off + 4, none⟩ = some (.int .i64 ee)) W') := Lib.hid fun W' h => ⟨cell_below (show wr.drew.cell? _ = _ from e0) h, cell_below (show wr.drew.cell? _ = _ from e1) h, cell_below (show wr.drew.cell? _ = _ from e2) h, cell_below (show wr.drew.cell? _ = _ from e3) h, cell_below (show wr.drew.cell? _ = _ from e4) h⟩
          refine regionT [0, 1, 2, 3, 4, 6, 7, 8, 9, 10, 11, 12, 13, 14, 15, 17, 18, 19, 20, 21] (fun w' : World => w'.cell? (sAt ad (i * 5)) = some (.string (bstr us)) ∧ w'.cell? ⟨(sAt ad (i * 5)).block, (sAt ad (i * 5)).off + 1, none⟩ = some (.slice sad ss.length ss.length) ∧ w'.cell? ⟨(sAt ad (i * 5)).block, (sAt ad (i * 5)).off + 2, none⟩ = some (.int .i64 mo) ∧ w'.cell? ⟨(sAt ad (i * 5)).block, (sAt ad (i * 5)).off + 3, none⟩ = some (.string (bstr out)) ∧ w'.cell? ⟨(sAt ad (i * 5)).block, (sAt ad (i * 5)).off + 4, none⟩ = some (.int .i64 ee)) (by kernel_rfl) ?_
          have hSS : (fun w' : World => w'.cell? (sAt ad (i * 5)) = some (.string (bstr us)) ∧ w'.cell? ⟨(sAt ad (i * 5)).block, (sAt ad (i * 5)).off + 1, none⟩ = some (.slice sad ss.length ss.length) ∧ w'.cell? ⟨(sAt ad (i * 5)).block, (sAt ad (i * 5)).off + 2, none⟩ = some (.int .i64 mo) ∧ w'.cell? ⟨(sAt ad (i * 5)).block, (sAt ad (i * 5)).off + 3, none⟩ = some (.string (bstr out)) ∧ w'.cell? ⟨(sAt ad (i * 5)).block, (sAt ad (i * 5)).off + 4, none⟩ = some (.int .i64 ee)) wr.drew := ⟨e0, e1, e2, e3, e4⟩
          obtain ⟨cb, w8, hcv, rb, b8⟩ := run_fresh8 (P := Try.prog) Try.underlying9 Try.underlying22 Try.underlying5 wr.drew us (by unfold maxLen; omega)
          refine AnyT.takeD 85 (i := 0) (v := ?_) (by decide) (by kernel_rfl) rfl rfl (by kernel_rfl) (by kernel_rfl) (by kernel_rfl) (by kernel_rfl) (fun _ _ _ h => h) (by assumption) (by rfl) (fun _ => rfl) ?_ ?_
          rotate_left
          focus (intro w hSw; (try dsimp only at hSw); go_split_ands; go_simp; (try with_reducible rfl))
          simp only [List.setIfInBounds_toArray, List.set_cons_zero, List.set_cons_succ]
          refine AnyT.takeD 86 (i := 1) (v := ?_) (by decide) (by kernel_rfl) rfl rfl (by kernel_rfl) (by kernel_rfl) (by kernel_rfl) (by kernel_rfl) (fun _ _ _ h => h) (by assumption) (by rfl) (fun _ => rfl) ?_ ?_
          rotate_left
          focus (intro w hSw; (try dsimp only at hSw); go_split_ands; go_simp; (try with_reducible rfl))
          simp only [List.setIfInBounds_toArray, List.set_cons_zero, List.set_cons_succ]
          refine AnyT.takeD 87 (i := 2) (v := ?_) (by decide) (by kernel_rfl) rfl rfl (by kernel_rfl) (by kernel_rfl) (by kernel_rfl) (by kernel_rfl) (fun _ _ _ h => h) (by assumption) (by rfl) (fun _ => rfl) ?_ ?_
          rotate_left
          focus (intro w hSw; (try dsimp only at hSw); go_split_ands; go_simp; (try with_reducible rfl))
          simp only [List.setIfInBounds_toArray, List.set_cons_zero, List.set_cons_succ]
          refine AnyT.takeD 88 (i := 3) (v := ?_) (by decide) (by kernel_rfl) rfl rfl (by kernel_rfl) (by kernel_rfl) (by kernel_rfl) (by kernel_rfl) (fun _ _ _ h => h) (by assumption) (by rfl) (fun _ => rfl) ?_ ?_
          rotate_left
          focus (intro w hSw; (try dsimp only at hSw); go_split_ands; go_simp; (try with_reducible rfl))
          simp only [List.setIfInBounds_toArray, List.set_cons_zero, List.set_cons_succ]
          refine AnyT.takeD 89 (i := 4) (v := ?_) (by decide) (by kernel_rfl) rfl rfl (by kernel_rfl) (by kernel_rfl) (by kernel_rfl) (by kernel_rfl) (fun _ _ _ h => h) (by assumption) (by rfl) (fun _ => rfl) ?_ ?_
          rotate_left
          focus (intro w hSw; (try dsimp only at hSw); go_split_ands; go_simp; (try with_reducible rfl))
          simp only [List.setIfInBounds_toArray, List.set_cons_zero, List.set_cons_succ]
          refine AnyT.takeD 91 (i := 6) (v := ?_) (by decide) (by kernel_rfl) rfl rfl (by kernel_rfl) (by kernel_rfl) (by kernel_rfl) (by kernel_rfl) (fun _ _ _ h => h) (by assumption) (by rfl) (fun _ => rfl) ?_ ?_
          rotate_left
          focus (intro w hSw; (try dsimp only at hSw); go_split_ands; go_simp; (try with_reducible rfl))
          simp only [List.setIfInBounds_toArray, List.set_cons_zero, List.set_cons_succ]
          refine AnyT.takeD 92 (i := 7) (v := ?_) (by decide) (by kernel_rfl) rfl rfl (by kernel_rfl) (by kernel_rfl) (by kernel_rfl) (by kernel_rfl) (fun _ _ _ h => h) (by assumption) (by rfl) (fun _ => rfl) ?_ ?_
          rotate_left
          focus (intro w hSw; (try dsimp only at hSw); go_split_ands; go_simp; (try with_reducible rfl))
          simp only [List.setIfInBounds_toArray, List.set_cons_zero, List.set_cons_succ]
          refine AnyT.takeD 93 (i := 8) (v := ?_) (by decide) (by kernel_rfl) rfl rfl (by kernel_rfl) (by kernel_rfl) (by kernel_rfl) (by kernel_rfl) (fun _ _ _ h => h) (by assumption) (by rfl) (fun _ => rfl) ?_ ?_
          rotate_left
          focus (intro w hSw; (try dsimp only at hSw); go_split_ands; go_simp; (try with_reducible rfl))
          simp only [List.setIfInBounds_toArray, List.set_cons_zero, List.set_cons_succ]
          refine AnyT.takeD 94 (i := 9) (v := ?_) (by decide) (by kernel_rfl) rfl rfl (by kernel_rfl) (by kernel_rfl) (by kernel_rfl) (by kernel_rfl) (fun _ _ _ h => h) (by assumption) (by rfl) (fun _ => rfl) ?_ ?_
          rotate_left
          focus (intro w hSw; (try dsimp only at hSw); go_split_ands; go_simp; (try with_reducible rfl))
          simp only [List.setIfInBounds_toArray, List.set_cons_zero, List.set_cons_succ]
          refine AnyT.takeD 95 (i := 10) (v := ?_) (by decide) (by kernel_rfl) rfl rfl (by kernel_rfl) (by kernel_rfl) (by kernel_rfl) (by kernel_rfl) (fun _ _ _ h => h) (by assumption) (by rfl) (fun _ => rfl) ?_ ?_
          rotate_left
          focus (intro w hSw; (try dsimp only at hSw); go_split_ands; go_simp; (try with_reducible rfl))
          simp only [List.setIfInBounds_toArray, List.set_cons_zero, List.set_cons_succ]
          refine AnyT.takeD 96 (i := 11) (v := ?_) (by decide) (by kernel_rfl) rfl rfl (by kernel_rfl) (by kernel_rfl) (by kernel_rfl) (by kernel_rfl) (fun _ _ _ h => h) (by assumption) (by rfl) (fun _ => rfl) ?_ ?_
          rotate_left
          focus (intro w hSw; (try dsimp only at hSw); go_split_ands; go_simp; (try with_reducible rfl))
          simp only [List.setIfInBounds_toArray, List.set_cons_zero, List.set_cons_succ]
          refine AnyT.takeD 97 (i := 12) (v := ?_) (by decide) (by kernel_rfl) rfl rfl (by kernel_rfl) (by kernel_rfl) (by kernel_rfl) (by kernel_rfl) (fun _ _ _ h => h) (by assumption) (by rfl) (fun _ => rfl) ?_ ?_
          rotate_left
          focus (intro w hSw; (try dsimp only at hSw); go_split_ands; go_simp; (try with_reducible rfl))
          simp only [List.setIfInBounds_toArray, List.set_cons_zero, List.set_cons_succ]
          refine AnyT.takeD 98 (i := 13) (v := ?_) (by decide) (by kernel_rfl) rfl rfl (by kernel_rfl) (by kernel_rfl) (by kernel_rfl) (by kernel_rfl) (fun _ _ _ h => h) (by assumption) (by rfl) (fun _ => rfl) ?_ ?_
          rotate_left
          focus (intro w hSw; (try dsimp only at hSw); go_split_ands; go_simp; (try with_reducible rfl))
          simp only [List.setIfInBounds_toArray, List.set_cons_zero, List.set_cons_succ]
          refine AnyT.takeD 99 (i := 14) (v := ?_) (by decide) (by kernel_rfl) rfl rfl (by kernel_rfl) (by kernel_rfl) (by kernel_rfl) (by kernel_rfl) (fun _ _ _ h => h) (by assumption) (by rfl) (fun _ => rfl) ?_ ?_
          rotate_left
          focus (intro w hSw; (try dsimp only at hSw); go_split_ands; go_simp; (try with_reducible rfl))
          simp only [List.setIfInBounds_toArray, List.set_cons_zero, List.set_cons_succ]
          refine AnyT.takeD 100 (i := 15) (v := ?_) (by decide) (by kernel_rfl) rfl rfl (by kernel_rfl) (by kernel_rfl) (by kernel_rfl) (by kernel_rfl) (fun _ _ _ h => h) (by assumption) (by rfl) (fun _ => rfl) ?_ ?_
          rotate_left
          focus (intro w hSw; (try dsimp only at hSw); go_split_ands; go_simp; (try with_reducible rfl))
          simp only [List.setIfInBounds_toArray, List.set_cons_zero, List.set_cons_succ]
          refine AnyT.only (i := 5) (by kernel_rfl) rfl (by rfl) (fun K hK => ?_)
          go_simp
          have hS8 := HS.out w8 b8
          have hSS8 : (fun w' : World => w'.cell? (sAt ad (i * 5)) = some (.string (bstr us)) ∧ w'.cell? ⟨(sAt ad (i * 5)).block, (sAt ad (i * 5)).off + 1, none⟩ = some (.slice sad ss.length ss.length) ∧ w'.cell? ⟨(sAt ad (i * 5)).block, (sAt ad (i * 5)).off + 2, none⟩ = some (.int .i64 mo) ∧ w'.cell? ⟨(sAt ad (i * 5)).block, (sAt ad (i * 5)).off + 3, none⟩ = some (.string (bstr out)) ∧ w'.cell? ⟨(sAt ad (i * 5)).block, (sAt ad (i * 5)).off + 4, none⟩ = some (.int .i64 ee)) w8 := hS8
          refine hK.out _ _ (fun _ => hS8) ?_
          clear hK K hSS hcv
          refine AnyT.only (i := 16) (by kernel_rfl) rfl (by rfl) (fun K hK => ?_)
          go_simp
          refine callWide (get_law w8 _ us.length cb us rb sad ss.length ss.length ss (rs.drew.below b8) mo (by omega) (by omega) (by omega)) ?_
          rintro e w9 hg
          obtain ⟨a9, c9, rfl, r9, b9⟩ : ∃ a9 c9, e = .returned (.tuple #[.slice a9 out.length c9, .int .i64 ee]) ∧ Rd w9 1 a9 out.length c9 (B8 out) ∧ Below w8.heap.size w8 w9 := by
            rcases HGD.out with ⟨hR, hout⟩ | ⟨hR, hee⟩
            · obtain ⟨h1, h2⟩ := hg.err hR
              subst hout
              exact ⟨_, _, h1, (Own.nil w9 0 1 0).rd, h2⟩
            · obtain ⟨a, c, h1, h2, h3⟩ := hg.ok hR
              subst hee
              exact ⟨a, c, h1, h2.rd, h3⟩
          go_simp
          have b89 : Below wr.heap.size wr.drew w9 := b8.trans (b9.mono b8.size)
          have hS9 := HS.out w9 b89
          refine hK.out _ _ (fun _ => hS9) ?_
          clear hK K hg hSS8 hS8 rb
          refine AnyT.takeD 84 (i := 17) (v := ?_) (by decide) (by kernel_rfl) rfl rfl (by kernel_rfl) (by kernel_rfl) (by kernel_rfl) (by kernel_rfl) (fun _ _ _ h => h) (by assumption) (by rfl) (fun _ => rfl) ?_ ?_
          rotate_left
          focus (intro w hSw; (try dsimp only at hSw); go_split_ands; go_simp; (try with_reducible rfl))
          simp only [List.setIfInBounds_toArray, List.set_cons_zero, List.set_cons_succ]
          refine AnyT.takeD 102 (i := 18) (v := ?_) (by decide) (by kernel_rfl) rfl rfl (by kernel_rfl) (by kernel_rfl) (by kernel_rfl) (by kernel_rfl) (fun _ _ _ h => h) (by assumption) (by rfl) (fun _ => rfl) ?_ ?_
          rotate_left
          focus (intro w hSw; (try dsimp only at hSw); go_split_ands; go_simp; (try with_reducible rfl))
          simp only [List.setIfInBounds_toArray, List.set_cons_zero, List.set_cons_succ]
          refine AnyT.takeD 103 (i := 19) (v := ?_) (by decide) (by kernel_rfl) rfl rfl (by kernel_rfl) (by kernel_rfl) (by kernel_rfl) (by kernel_rfl) (fun _ _ _ h => h) (by assumption) (by rfl) (fun _ => rfl) ?_ ?_
          rotate_left
          focus (intro w hSw; (try dsimp only at hSw); go_split_ands; go_simp; (try with_reducible rfl))
          simp only [List.setIfInBounds_toArray, List.set_cons_zero, List.set_cons_succ]
          refine AnyT.takeD 11 (i := 20) (v := ?_) (by decide) (by kernel_rfl) rfl rfl (by kernel_rfl) (by kernel_rfl) (by kernel_rfl) (by kernel_rfl) (fun _ _ _ h => h) (by assumption) (by rfl) (fun _ => rfl) ?_ ?_
          rotate_left
          focus (intro w hSw; (try dsimp only at hSw); go_split_ands; go_simp; (try with_reducible rfl))
          simp only [List.setIfInBounds_toArray, List.set_cons_zero, List.set_cons_succ]
          refine AnyT.takeD 12 (i := 21) (v := ?_) (by decide) (by kernel_rfl) rfl rfl (by kernel_rfl) (by kernel_rfl) (by kernel_rfl) (by kernel_rfl) (fun _ _ _ h => h) (by assumption) (by rfl) (fun _ => rfl) ?_ ?_
          rotate_left
          focus (intro w hSw; (try dsimp only at hSw); go_split_ands; go_simp; (try with_reducible rfl))
          simp only [List.setIfInBounds_toArray, List.set_cons_zero, List.set_cons_succ]
          refine AnyT.done (by kernel_rfl) ?_ _
          obtain ⟨_, _, _, f3, f4⟩ := hS9
          have fs := rstr r9
          clear e0 e1 e2 e3 e4 HS rs b8 b9
          gi_wp2
          refine regionT [0, 1, 2, 3, 4, 5, 6, 7, 8, 9, 10, 11, 12, 13, 14, 15, 16] (fun w' : World => (convert 22 9 (.slice a9 out.length c9)).run Try.prog w' = .ok (.string (bstr out)) w' ∧ w'.cell? ⟨(sAt ad (i * 5)).block, (sAt ad (i * 5)).off + 3, none⟩ = some (.string (bstr out)) ∧ w'.cell? ⟨(sAt ad (i * 5)).block, (sAt ad (i * 5)).off + 4, none⟩ = some (.int .i64 ee)) (by kernel_rfl) ?_
          have hSS : (fun w' : World => (convert 22 9 (.slice a9 out.length c9)).run Try.prog w' = .ok (.string (bstr out)) w' ∧ w'.cell? ⟨(sAt ad (i * 5)).block, (sAt ad (i * 5)).off + 3, none⟩ = some (.string (bstr out)) ∧ w'.cell? ⟨(sAt ad (i * 5)).block, (sAt ad (i * 5)).off + 4, none⟩ = some (.int .i64 ee)) w9.drew := ⟨rstr r9.drew, f3, f4⟩
          refine AnyT.takeD 104 (i := 0) (v := ?_) (by decide) (by kernel_rfl) rfl rfl (by kernel_rfl) (by kernel_rfl) (by kernel_rfl) (by kernel_rfl) (fun _ _ _ h => h) (by assumption) (by rfl) (fun _ => rfl) ?_ ?_
          rotate_left
          focus (intro w hSw; (try dsimp only at hSw); go_split_ands; go_simp; (try with_reducible rfl))
          simp only [List.setIfInBounds_toArray, List.set_cons_zero, List.set_cons_succ]
          refine AnyT.takeD 105 (i := 1) (v := ?_) (by decide) (by kernel_rfl) rfl rfl (by kernel_rfl) (by kernel_rfl) (by kernel_rfl) (by kernel_rfl) (fun _ _ _ h => h) (by assumption) (by rfl) (fun _ => rfl) ?_ ?_
          rotate_left
          focus (intro w hSw; (try dsimp only at hSw); go_split_ands; go_simp; (try with_reducible rfl))
          simp only [List.setIfInBounds_toArray, List.set_cons_zero, List.set_cons_succ]
          refine AnyT.takeD 106 (i := 2) (v := ?_) (by decide) (by kernel_rfl) rfl rfl (by kernel_rfl) (by kernel_rfl) (by kernel_rfl) (by kernel_rfl) (fun _ _ _ h => h) (by assumption) (by rfl) (fun _ => rfl) ?_ ?_
          rotate_left
          focus (intro w hSw; (try dsimp only at hSw); go_split_ands; go_simp; (try with_reducible rfl))
          simp only [List.setIfInBounds_toArray, List.set_cons_zero, List.set_cons_succ]
          refine AnyT.takeD 107 (i := 3) (v := ?_) (by decide) (by kernel_rfl) rfl rfl (by kernel_rfl) (by kernel_rfl) (by kernel_rfl) (by kernel_rfl) (fun _ _ _ h => h) (by assumption) (by rfl) (fun _ => rfl) ?_ ?_
          rotate_left
          focus (intro w hSw; (try dsimp only at hSw); go_split_ands; go_simp; (try with_reducible rfl))
          simp only [List.setIfInBounds_toArray, List.set_cons_zero, List.set_cons_succ]
          refine AnyT.takeD 108 (i := 4) (v := ?_) (by decide) (by kernel_rfl) rfl rfl (by kernel_rfl) (by kernel_rfl) (by kernel_rfl) (by kernel_rfl) (fun _ _ _ h => h) (by assumption) (by rfl) (fun _ => rfl) ?_ ?_
          rotate_left
          focus (intro w hSw; (try dsimp only at hSw); go_split_ands; go_simp; (try with_reducible rfl))
          simp only [List.setIfInBounds_toArray, List.set_cons_zero, List.set_cons_succ]
          refine AnyT.takeD 109 (i := 5) (v := ?_) (by decide) (by kernel_rfl) rfl rfl (by kernel_rfl) (by kernel_rfl) (by kernel_rfl) (by kernel_rfl) (fun _ _ _ h => h) (by assumption) (by rfl) (fun _ => rfl) ?_ ?_
          rotate_left
          focus (intro w hSw; (try dsimp only at hSw); go_split_ands; go_simp; (try with_reducible rfl))
          simp only [List.setIfInBounds_toArray, List.set_cons_zero, List.set_cons_succ]
          refine AnyT.takeD 110 (i := 6) (v := ?_) (by decide) (by kernel_rfl) rfl rfl (by kernel_rfl) (by kernel_rfl) (by kernel_rfl) (by kernel_rfl) (fun _ _ _ h => h) (by assumption) (by rfl) (fun _ => rfl) ?_ ?_
          rotate_left
          focus (intro w hSw; (try dsimp only at hSw); go_split_ands; go_simp; (try with_reducible rfl))
          simp only [List.setIfInBounds_toArray, List.set_cons_zero, List.set_cons_succ]
          refine AnyT.takeD 111 (i := 7) (v := ?_) (by decide) (by kernel_rfl) rfl rfl (by kernel_rfl) (by kernel_rfl) (by kernel_rfl) (by kernel_rfl) (fun _ _ _ h => h) (by assumption) (by rfl) (fun _ => rfl) ?_ ?_
          rotate_left
          focus (intro w hSw; (try dsimp only at hSw); go_split_ands; go_simp; (try with_reducible rfl))
          simp only [List.setIfInBounds_toArray, List.set_cons_zero, List.set_cons_succ]
          refine AnyT.takeD 112 (i := 8) (v := ?_) (by decide) (by kernel_rfl) rfl rfl (by kernel_rfl) (by kernel_rfl) (by kernel_rfl) (by kernel_rfl) (fun _ _ _ h => h) (by assumption) (by rfl) (fun _ => rfl) ?_ ?_
          rotate_left
          focus (intro w hSw; (try dsimp only at hSw); go_split_ands; go_simp; (try with_reducible rfl))
          simp only [List.setIfInBounds_toArray, List.set_cons_zero, List.set_cons_succ]
          refine AnyT.takeD 113 (i := 9) (v := ?_) (by decide) (by kernel_rfl) rfl rfl (by kernel_rfl) (by kernel_rfl) (by kernel_rfl) (by kernel_rfl) (fun _ _ _ h => h) (by assumption) (by rfl) (fun _ => rfl) ?_ ?_
          rotate_left
          focus (intro w hSw; (try dsimp only at hSw); go_split_ands; go_simp; (try with_reducible rfl))
          simp only [List.setIfInBounds_toArray, List.set_cons_zero, List.set_cons_succ]
          refine AnyT.takeD 114 (i := 10) (v := ?_) (by decide) (by kernel_rfl) rfl rfl (by kernel_rfl) (by kernel_rfl) (by kernel_rfl) (by kernel_rfl) (fun _ _ _ h => h) (by assumption) (by rfl) (fun _ => rfl) ?_ ?_
          rotate_left
          focus (intro w hSw; (try dsimp only at hSw); go_split_ands; go_simp; (try with_reducible rfl))
          simp only [List.setIfInBounds_toArray, List.set_cons_zero, List.set_cons_succ]
          refine AnyT.takeD 115 (i := 11) (v := ?_) (by decide) (by kernel_rfl) rfl rfl (by kernel_rfl) (by kernel_rfl) (by kernel_rfl) (by kernel_rfl) (fun _ _ _ h => h) (by assumption) (by rfl) (fun _ => rfl) ?_ ?_
          rotate_left
          focus (intro w hSw; (try dsimp only at hSw); go_split_ands; go_simp; (try with_reducible rfl))
          simp only [List.setIfInBounds_toArray, List.set_cons_zero, List.set_cons_succ]
          refine AnyT.takeD 116 (i := 12) (v := ?_) (by decide) (by kernel_rfl) rfl rfl (by kernel_rfl) (by kernel_rfl) (by kernel_rfl) (by kernel_rfl) (fun _ _ _ h => h) (by assumption) (by rfl) (fun _ => rfl) ?_ ?_
          rotate_left
          focus (intro w hSw; (try dsimp only at hSw); go_split_ands; go_simp; (try with_reducible rfl))
          simp only [List.setIfInBounds_toArray, List.set_cons_zero, List.set_cons_succ]
          refine AnyT.takeD 117 (i := 13) (v := ?_) (by decide) (by kernel_rfl) rfl rfl (by kernel_rfl) (by kernel_rfl) (by kernel_rfl) (by kernel_rfl) (fun _ _ _ h => h) (by assumption) (by rfl) (fun _ => rfl) ?_ ?_
          rotate_left
          focus (intro w hSw; (try dsimp only at hSw); go_split_ands; go_simp; (try with_reducible rfl))
          simp only [List.setIfInBounds_toArray, List.set_cons_zero, List.set_cons_succ]
          refine AnyT.takeD 118 (i := 14) (v := ?_) (by decide) (by kernel_rfl) rfl rfl (by kernel_rfl) (by kernel_rfl) (by kernel_rfl) (by kernel_rfl) (fun _ _ _ h => h) (by assumption) (by rfl) (fun _ => rfl) ?_ ?_
          rotate_left
          focus (intro w hSw; (try dsimp only at hSw); go_split_ands; go_simp; (try with_reducible rfl))
          simp only [List.setIfInBounds_toArray, List.set_cons_zero, List.set_cons_succ]
          refine AnyT.takeD 119 (i := 15) (v := ?_) (by decide) (by kernel_rfl) rfl rfl (by kernel_rfl) (by kernel_rfl) (by kernel_rfl) (by kernel_rfl) (fun _ _ _ h => h) (by assumption) (by rfl) (fun _ => rfl) ?_ ?_
          rotate_left
          focus (intro w hSw; (try dsimp only at hSw); go_split_ands; go_simp; (try with_reducible rfl))
          simp only [List.setIfInBounds_toArray, List.set_cons_zero, List.set_cons_succ]
          refine AnyT.takeD 120 (i := 16) (v := ?_) (by decide) (by kernel_rfl) rfl rfl (by kernel_rfl) (by kernel_rfl) (by kernel_rfl) (by kernel_rfl) (fun _ _ _ h => h) (by assumption) (by rfl) (fun _ => rfl) ?_ ?_
          rotate_left
          focus (intro w hSw; (try dsimp only at hSw); go_split_ands; go_simp; (try with_reducible rfl))
          simp only [List.setIfInBounds_toArray, List.set_cons_zero, List.set_cons_succ]
          refine AnyT.done (by kernel_rfl) ?_ _
          gi_wp2
          go_roundw
          case rel => exact ⟨i + 1, by omega, by simp, bw.trans ((show Below wr.heap.size wr w9.drew from ((Below.refl _ wr).drew.trans b89).drew).mono bw.size)⟩
          case measure => simp [intOf]; omega
        · obtain rfl : i = 15 := by omega
          clear rt RR RG
          have z7 := z6.below bw
          have v7 := v6.below bw
          have y7 := y6.below bw
          have x7 := x6.below bw
          have u7 := u6.below bw
          have t7 := t6.below bw
          have b07 := b06.trans (bw.mono b06.size)
          clear z6 v6 y6 x6 u6 t6 b06 bw bt
          gi_wp2_with (first | (refine wpListIn_mk (fun _ => trivial) rfl _ _ _ rfl tI rfl rfl 600 rfl rfl rfl rfl (by unfold maxLen; omega) (by omega) ?_; intro w7 o7 b7 s7) | (refine wpListIn_push (fun _ => trivial) rfl _ _ _ rfl tI rfl (by show Value.slice (some ⟨w7.heap.size + 1, 0, none⟩) 1 1 = _; rw [World.size_alloc]) (o7.alloc _) (ys := [.int .i64 2]) rfl (by simp [Value.oneCell']) (by unfold maxLen; omega) (by omega) (by have := b7.size; simp; omega) ?_; intro a8 c8 w8 o8 g8 n8))
          have bw8 := Own.grown (b7.alloc b7.size _) (o7.alloc _) g8 (by have := b7.size; simp; omega) (Nat.le_refl _)
          have r97 := (Rd.rowM w7 5 1 1 (1, 2) (B8 [97]) rfl (by unfold maxLen; omega) (B8_one _)).keep (w' := w8) (fun a ha => by
            cases ha
            exact g8.block _ (by simp) (fun e => by have := s7.out; simp [bOf] at e; omega))
          rw [zeros_snoc 600] at o8
          have ro8 := o8.rd
          have z8 := z7.below bw8
          have v8 := v7.below bw8
          have y8 := y7.below bw8
          have x8 := x7.below bw8
          have u8 := u7.below bw8
          have t8 := t7.below bw8
          have b08 := b07.trans (bw8.mono b07.size)
          have hget := get_law w8 _ 1 1 [97] r97 a8 601 c8 (List.replicate 600 0 ++ [2]) ro8 900000 (by decide) (by decide) (by decide)
          clear z7 v7 y7 x7 u7 t7 b07 bw8 o7 o8 g8 n8 b7 s7 r97 ro8
          refine ⟨trivial, callsIn_wide.2 ?_⟩
          refine hget.mono ?_
          rintro e w9 hg
          obtain ⟨rfl, b9⟩ := hg.err long_R
          have z9 := z8.below b9
          have v9 := v8.below b9
          have y9 := y8.below b9
          have x9 := x8.below b9
          have u9 := u8.below b9
          have t9 := t8.below b9
          have b09 := b08.trans (b9.mono b08.size)
          clear z8 v8 y8 x8 u8 t8 b08 b9 hg hget
          gi_wp2
          have h8 := (Rd.rowM w9 5 1 1 (1, 2) (B8 [97]) rfl (by unfold maxLen; omega) (B8_one _)).alloc (.cells (I64 [2]).toArray 3)
          have hI : Rd ((w9.alloc (.cells (B8 [97]).toArray 5 (1, 2))).alloc (.cells (I64 [2]).toArray 3)) 1 (some ⟨w9.heap.size + 1, 0, none⟩) 1 1 (I64 [2]) := by
            have := Rd.row (w9.alloc (.cells (B8 [97]).toArray 5 (1, 2))) 3 1 1 (I64 [2]) rfl (by unfold maxLen; omega) (I64_one _)
            rwa [World.size_alloc] at this
          have hget := get_law _ _ 1 1 [97] h8 _ 1 1 [2] hI 900001 (by decide) (by decide) (by decide)
          have bA : Below w9.heap.size w9 ((w9.alloc (.cells (B8 [97]).toArray 5 (1, 2))).alloc (.cells (I64 [2]).toArray 3)) := ((Below.refl _ _).alloc (Nat.le_refl _) _).alloc (by simp) _
          refine ⟨trivial, callsIn_wide.2 ?_⟩
          refine hget.mono ?_
          rintro e wA hg
          obtain ⟨rfl, bB⟩ := hg.err big_R
          replace bA := bA.trans (bB.mono (by simp; omega))
          have zA := z9.below bA
          have vA := v9.below bA
          have yA := y9.below bA
          have xA := x9.below bA
          have uA := u9.below bA
          have tA := t9.below bA
          have b0A := b09.trans (bA.mono b09.size)
          clear z9 v9 y9 x9 u9 t9 b09 bA bB hg hget h8 hI
          gi_wp2
          have hput := put_law wA none 0 0 [] (Own.nil wA 0 1 0).rd (by decide)
          rw [usedL_nil, put_nilk] at hput
          refine ⟨trivial, callsIn_wide.2 ?_⟩
          refine hput.mono ?_
          rintro e wB ⟨aB, cB, aC, cC, rfl, _, oC, bB⟩
          dsimp only [List.length_cons, List.length_nil]
          have zB := zA.below bB
          have vB := vA.below bB
          have yB := yA.below bB
          have xB := xA.below bB
          have uB := uA.below bB
          have tB := tA.below bB
          have kB : Rd wB 1 aC 1 cC (I64 [1]) := oC.rd
          have b0B := b0A.trans (bB.mono b0A.size)
          have su : (convert 22 9 (.slice a1 3 c1)).run Try.prog wB = .ok (.string ⟨#[97, 98, 110]⟩) wB := rstr uB
          clear zA vA yA xA uA tA b0A oC bB hput
          gi_wp2
          have hI6 := Rd.row wB 3 1 6 (I64 [3, 0, 3, 3, 1, 4]) rfl (by unfold maxLen; omega) (I64_one _)
          have hsame := same_law (wB.alloc (.cells (I64 [3, 0, 3, 3, 1, 4]).toArray 3)) a2 (some ⟨wB.heap.size, 0, none⟩) 6 c2 6 6 [3, 0, 3, 3, 1, 4] [3, 0, 3, 3, 1, 4] (tB.alloc _) hI6
          rw [show decide (([3, 0, 3, 3, 1, 4] : List Int) = [3, 0, 3, 3, 1, 4]) = true from rfl] at hsame
          refine ⟨trivial, callsIn_wide.2 ?_⟩
          refine hsame.mono ?_
          rintro e wC ⟨rfl, bC⟩
          have bC2 : Below wB.heap.size wB wC := ((Below.refl _ wB).alloc (Nat.le_refl _) _).trans (bC.mono (by simp))
          obtain ⟨nv, cv0⟩ := (vB.below bC2).get8 (k := 0) (by decide)
          rw [HUA.out] at cv0
          have cv : wC.cell? (sAt a3 0) = some (.int .u8 0) := cv0
          obtain ⟨ny, cy⟩ := (show Rd wC 1 a4 257 c4 (I64 (toI P)) by rw [toI_N64k]; exact yB.below bC2).getI (k := 0) (by decide)
          rw [HPA.out] at cy
          obtain ⟨nk, ck0⟩ := (kB.below bC2).getI (k := 0) (by decide)
          have ck : wC.cell? (sAt aC 0) = some (.int .i64 1) := ck0
          have sx := rstr (zB.below bC2)
          have sa := rstr (xB.below bC2)
          generalize bstr (falL 256) = BS at sx sa
          have b0C := b0B.trans (bC2.mono b0B.size)
          clear zB vB yB xB uB tB kB b0B bC hsame hI6 su cv0 ck0
          gi_wp2
          refine ⟨trivial, callsIn_wide.2 ?_⟩
          refine (says_any _).mono ?_
          rintro e w9 ⟨rfl, b9⟩
          gi_wp2
          go_ret
          exact ⟨rfl, b0C.trans (b9.mono b0C.size)⟩
end Go.Proofs.Ytindbmfccgeikaa
