/- The document's Put. -/
import Derived.Test.YtindbmfccgeikaaFroK
namespace Go.Proofs.Ytindbmfccgeikaa
set_option linter.unusedSimpArgs false
set_option linter.unusedVariables false
open Go.RowKit

def outS : List Nat → Nat → List Nat
  | [], r => digL r
  | p :: t, r => if p = 0 then outS t (r + 1) else digL r ++ (p + 1) :: outS t 0
theorem putS_outS : ∀ (b ys : List UInt8) (r : Nat), putS b ys r = outS (plL b ys) r
  | [], ys, r => rfl
  | c :: t, ys, r => by rw [putS, plL, outS, putS_outS t _ (r + 1), putS_outS t _ 0]
theorem outS_drop {pl : List Nat} {i r p : Nat} (hp : pl[i]? = some p) : outS (pl.drop i) r = if p = 0 then outS (pl.drop (i + 1)) (r + 1) else digL r ++ (p + 1) :: outS (pl.drop (i + 1)) 0 := by
  obtain ⟨h, e⟩ := List.getElem?_eq_some_iff.1 hp
  rw [List.drop_eq_getElem_cons h, outS, e]

theorem plL_lt : ∀ (b ys : List UInt8), (∀ x, x ∈ b → x ∈ ys) → ∀ p ∈ plL b ys, p < ys.length
  | [], ys, h, p, hp => by cases hp
  | c :: t, ys, h, p, hp => by
    have hc := pos8_lt (h c (List.mem_cons_self ..))
    rw [plL, List.mem_cons] at hp
    rcases hp with h1 | h1
    · omega
    · have := plL_lt t _ (fun x hx => (mvd_mem ys _ hc x).2 (h x (List.mem_cons_of_mem _ hx))) p h1
      rwa [mvd_len ys _ hc] at this

set_option maxRecDepth 100000 in
set_option maxHeartbeats 8000000 in
theorem rput_law (w : World) (ad : Option Addr) (n cap : Nat) (b : List UInt8) (hb : Rd w 1 ad n cap (B8 b)) (hn : n ≤ 1000000) :
    Calls Try.prog 10 #[.slice ad n cap] w fun e w' => ∃ a c a2 c2, e = .returned (.tuple #[.slice a (usedL b).length c, .slice a2 (putL b).length c2]) ∧
      Own w' 5 1 w.heap.size a (usedL b).length c (B8 (usedL b)) ∧ Own w' 3 1 w.heap.size a2 (putL b).length c2 (N64 (putL b)) ∧ Below w.heap.size w w' := by
  have hl := hb.len8
  have hml := usedL_len b
  have hul := used_law w ad n cap b hb hn
  have hpls := fun W a c (hu : Rd W 1 a (usedL b).length c (B8 (usedL b))) (hbb : Rd W 1 ad n cap (B8 b)) => places_law W a (usedL b).length c (usedL b) hu ad n cap b hbb (by omega) hn (fun x hx => (usedL_mem b x).2 hx)
  have hpll := plL_len b (usedL b)
  have hpb := plL_lt b (usedL b) (fun x hx => (usedL_mem b x).2 hx)
  have hpu : putL b = outS (plL b (usedL b)) 0 ++ [(usedL b).length + 1] := by unfold putL; rw [putS_outS]
  rw [hl] at hpll
  have hZl : (outS (plL b (usedL b)) 0).length ≤ n := by rw [← putS_outS]; have := putS_len b (usedL b) 0; omega
  rw [hpu]
  generalize plL b (usedL b) = pl at *
  generalize usedL b = U at *
  obtain ⟨Z, hZ⟩ : ∃ Z, outS pl 0 = Z := ⟨_, rfl⟩
  obtain ⟨m, hm⟩ : ∃ m, U.length = m := ⟨_, rfl⟩
  rw [hZ] at hZl
  rw [hZ, hm]
  simp only [hm] at hul hpls hml hpb
  have HPB := Lib.hid hpb; clear hpb
  rw [show (Z ++ [m + 1]).length = Z.length + 1 by simp]
  have HZ := Lib.hid hZ; clear hZ
  have HM := Lib.hid hm; clear hm hpu
  have HPL := Lib.hid hpll; clear hpll
  have HPS := Lib.hid hpls; clear hpls hl
  go_enter Try.func10, Try.ntmps10
  go_wp2_with fail
  refine hul.mono ?_
  rintro e w1 ⟨a, c, rfl, o1, b1⟩
  go_wp2_with fail
  refine (HPS.out w1 a c o1.rd (hb.below b1)).mono ?_
  rintro e w2 ⟨ap, cp, rfl, o2, b2⟩
  have ou := o1.below b2
  have b12 := b1.trans (b2.mono b1.size)
  have hbu : ∀ x, a = some ⟨x, 0, none⟩ → x < w2.heap.size := fun x hx => (ou.blk hx).2
  have rp := o2.rd
  obtain ⟨T, hT⟩ : ∃ T, w2.heap.size = T := ⟨_, rfl⟩
  have hT2 : T ≤ w2.heap.size := by omega
  have hwT : w.heap.size ≤ T := by have := b12.size; omega
  rw [hT] at hbu
  have RP := Lib.hid (show ∀ W, Below T w2 W → Rd W 1 ap n cp (N64 pl) from fun W h => rp.below (by rw [hT]; exact h))
  have bT : Below T w2 w2 := Below.refl _ _
  clear o1 o2 b1 b2 hul hT rp
  go_wp2_with fail
  go_loopg [6, 7, 8] n (fun k v6 v7 v8 wr => ∃ (i : Nat) (S : List Nat) (r : Nat) (a2 : Option Addr) (c2 : Nat), i ≤ n ∧ n - i = k ∧ v6 = .slice a2 S.length c2 ∧ v7 = .int .i64 (r : Int) ∧ v8 = .int .i64 (i : Int) ∧ S.length + r ≤ i ∧ Hid (S ++ outS (pl.drop i) r = Z) ∧ Below w.heap.size w wr ∧ Below T w2 wr ∧ T ≤ wr.heap.size ∧ Own wr 5 1 w.heap.size a m c (B8 U) ∧ Own wr 3 1 T a2 S.length c2 (N64 S))
  case atStart => exact ⟨0, [], 0, none, 0, Nat.zero_le _, rfl, rfl, rfl, rfl, by simp, Lib.hid (by rw [List.drop_zero, HZ.out]; rfl), b12, bT, hT2, ou, Own.nil _ _ _ _⟩
  case round =>
    clear ou b12 bT hT2
    obtain ⟨i, S, r, a2, c2, hin, rfl, rfl, rfl, rfl, hSr, hS, bw, bT, hTr, ou, os⟩ := hrel
    rename World => wr
    by_cases hlt : i < n
    · obtain ⟨p, hp⟩ : ∃ p, pl[i]? = some p := ⟨_, List.getElem?_eq_getElem (by rw [HPL.out]; exact hlt)⟩
      have hod := outS_drop (r := r) hp
      have hcell : ∀ W, Below T w2 W → ap ≠ none ∧ W.cell? (sAt ap i) = some (.int .i64 (p : Int)) := fun W h => by
        have := (show Rd W 1 ap n cp (I64 (pl.map fun c : Nat => (c : Int))) by rw [← N64_I64]; exact RP.out W h).getI hlt
        rwa [show atI (pl.map fun c : Nat => (c : Int)) i = (p : Int) by simp [atI, hp, List.getD_eq_getElem?_getD]] at this
      have HOD := Lib.hid hod; clear hod
      have HPI := Lib.hid hp
      have HCELL := Lib.hid hcell; clear hcell hp
      obtain ⟨ne, cp1⟩ := HCELL.out wr bT
      have hin2 : (i : Int) < (n : Int) := by omega
      by_cases hp0 : p = 0
      · subst hp0
        go_wp2_with fail
        go_roundg (n - (i + 1))
        case measure => omega
        case rel => exact ⟨i + 1, S, r + 1, a2, c2, by omega, rfl, rfl, by simp, by simp, by omega, Lib.hid (by rw [← hS.out, HOD.out, if_pos trivial]), bw, bT, hTr, ou, os⟩
      · have t1 : ((p : Int) == 0) = false := beq_eq_false_iff_ne.2 (by omega)
        have hdl := digL_len r
        have hpb := HPB.out p (List.mem_of_getElem? HPI.out)
        go_upto_region 11 with (first
          | (go_at_call 22; refine (rdigits_law _ r (by omega)).mono ?_; rintro e wd ⟨ad', cd', rfl, od, bd⟩; have osd := os.below bd; have hsd : T ≤ wd.heap.size := Nat.le_trans hTr bd.size)
          | (refine wpList_app rfl _ _ _ rfl tI rfl rfl osd od.rd (by unfold maxLen; omega) (by omega) hsd ?_; intro a7 c7 w7 o7 g7 n7; have hs7 : T ≤ w7.heap.size := Nat.le_trans hsd g7.size))
        have ou7 := (ou.below bd).other g7 (fun x hx e => by have := own_bOf osd e; have := hbu x hx; omega)
        have bw7 := Own.grown (bw.trans (bd.mono bw.size)) osd g7 (by omega) (by omega)
        have bT7 := Own.grown (bT.trans (bd.mono (by omega))) osd g7 hsd (Nat.le_refl _)
        rw [N64_apps] at o7
        clear os ou bw bT hTr osd od bd g7 n7 hsd
        obtain ⟨ne7, cp7⟩ := HCELL.out w7 bT7
        go_wp2_with (refine wpList_push rfl _ _ _ rfl tI rfl rfl o7 (ys := [.int .i64 ((p : Int) + 1)]) rfl (by simp [Value.oneCell']) (by unfold maxLen; omega) (by omega) hs7 ?_; intro a8 c8 w8 o8 g8 n8)
        have ou8 := ou7.other g8 (fun x hx e => by have := own_bOf o7 e; have := hbu x hx; omega)
        have bw8 := Own.grown bw7 o7 g8 (by omega) (by omega)
        have bT8 := Own.grown bT7 o7 g8 hs7 (Nat.le_refl _)
        have hs8 : T ≤ w8.heap.size := Nat.le_trans hs7 g8.size
        rw [show N64 (S ++ digL r) ++ [.int .i64 ((p : Int) + 1)] = N64 (S ++ digL r ++ [p + 1]) by simp [N64]] at o8
        have hlen : S.length + (digL r).length + 1 = (S ++ digL r ++ [p + 1]).length := by simp; omega
        go_roundg (n - (i + 1))
        case measure => omega
        case rel => exact ⟨i + 1, S ++ digL r ++ [p + 1], 0, a8, c8, by omega, rfl, by rw [hlen], rfl, by simp, by rw [← hlen]; omega, Lib.hid (by rw [← hS.out, HOD.out, if_neg hp0]; simp), bw8, bT8, hs8, ou8, by rw [← hlen]; exact o8⟩
    · obtain rfl : i = n := by omega
      have hZe := hS.out
      rw [List.drop_of_length_le (by rw [HPL.out]; exact Nat.le_refl _), outS] at hZe
      have hlen : Z.length = S.length + (digL r).length := by rw [← hZe]; simp
      have hdl := digL_len r
      have HZE := Lib.hid hZe; clear hZe
      have HLEN := Lib.hid hlen; clear hlen
      go_upto_region 14 with (first
        | (go_at_call 22; refine (rdigits_law _ r (by omega)).mono ?_; rintro e wd ⟨ad', cd', rfl, od, bd⟩; have osd := os.below bd; have hsd : T ≤ wd.heap.size := Nat.le_trans hTr bd.size)
        | (refine wpList_app rfl _ _ _ rfl tI rfl rfl osd od.rd (by unfold maxLen; omega) (by omega) hsd ?_; intro a7 c7 w7 o7 g7 n7; have hs7 : T ≤ w7.heap.size := Nat.le_trans hsd g7.size))
      have ou7 := (ou.below bd).other g7 (fun x hx e => by have := own_bOf osd e; have := hbu x hx; omega)
      have bw7 := Own.grown (bw.trans (bd.mono bw.size)) osd g7 (by omega) (by omega)
      have bT7 := Own.grown (bT.trans (bd.mono (by omega))) osd g7 hsd (Nat.le_refl _)
      rw [N64_apps] at o7
      clear os ou bw bT hTr osd od bd g7 n7 hsd
      go_wp2_with (refine wpList_push rfl _ _ _ rfl tI rfl rfl o7 (ys := [.int .i64 ((m : Int) + 1)]) rfl (by simp [Value.oneCell']) (by unfold maxLen; omega) (by omega) hs7 ?_; intro a8 c8 w8 o8 g8 n8)
      have ou8 := ou7.other g8 (fun x hx e => by have := own_bOf o7 e; have := hbu x hx; omega)
      have bw8 := Own.grown bw7 o7 g8 (by omega) (by omega)
      have bT8 := Own.grown bT7 o7 g8 hs7 (Nat.le_refl _)
      have hs8 : T ≤ w8.heap.size := Nat.le_trans hs7 g8.size
      refine bodyPost_ret (results_tmp2 rfl _ _ _) rfl ?_
      refine ⟨a, c, a8, c8, by rw [HLEN.out]; rfl, ou8, ?_, bw8⟩
      rw [HLEN.out, ← HZE.out]
      have o9 := o8.lower hwT
      rw [show N64 (S ++ digL r) ++ [.int .i64 ((m : Int) + 1)] = N64 (S ++ digL r ++ [m + 1]) by simp [N64]] at o9
      exact o9
end Go.Proofs.Ytindbmfccgeikaa
