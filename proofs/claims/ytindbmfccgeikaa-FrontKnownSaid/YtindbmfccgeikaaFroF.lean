/- front.Put. -/
import Derived.Test.YtindbmfccgeikaaFroE
namespace Go.Proofs.Ytindbmfccgeikaa
set_option linter.unusedSimpArgs false
set_option linter.unusedVariables false
open Go.RowKit

/-- the symbols of bytes, from a list and a run on -/
def putS : List UInt8 → List UInt8 → Nat → List Nat
  | [], ys, r => digL r
  | c :: t, ys, r => if pos8 ys c = 0 then putS t (mvd ys (pos8 ys c)) (r + 1) else digL r ++ (pos8 ys c + 1) :: putS t (mvd ys (pos8 ys c)) 0
def putL (b : List UInt8) : List Nat := putS b (usedL b) 0 ++ [(usedL b).length + 1]
theorem usedL_len (b : List UInt8) : (usedL b).length ≤ 256 := by
  refine Nat.le_trans (List.length_filter_le _ _) (by simp)
theorem putS_len : ∀ (b ys : List UInt8) (r : Nat), (putS b ys r).length ≤ b.length + r
  | [], ys, r => by simpa [putS] using digL_len r
  | c :: t, ys, r => by
    rw [putS]
    split
    · have := putS_len t (mvd ys (pos8 ys c)) (r + 1)
      simp; omega
    · have := putS_len t (mvd ys (pos8 ys c)) 0
      have := digL_len r
      simp; omega
theorem putS_drop {b ys : List UInt8} {i r : Nat} {c : UInt8} (h : i < b.length) (hc : at8 b i = c) : putS (b.drop i) ys r = if pos8 ys c = 0 then putS (b.drop (i + 1)) (mvd ys (pos8 ys c)) (r + 1) else digL r ++ (pos8 ys c + 1) :: putS (b.drop (i + 1)) (mvd ys (pos8 ys c)) 0 := by
  rw [List.drop_eq_getElem_cons h, putS]
  have : b[i] = c := by rw [← hc]; simp [at8, h, List.getD_eq_getElem?_getD]
  rw [this]

theorem digits_zero (w : World) : Calls Try.prog 19 #[.int .i64 0] w fun e w' => ∃ a c, e = .returned (.slice a 0 c) ∧ Own w' 3 1 w.heap.size a 0 c (N64 []) ∧ Below w.heap.size w w' := by
  have h := digits_law w 0 (by omega)
  rw [digL_zero] at h
  exact h
theorem own_bOf {w : World} {e sz lo : Nat} {ad : Option Addr} {n cap : Nat} {cs : List Value} (h : Own w e sz lo ad n cap cs) {r : Nat} (hr : bOf ad = some r) : lo ≤ r := by
  obtain ⟨_, hc⟩ := h.cases
  rcases hc with ⟨h1, _⟩ | ⟨g, cur, h1, hb, _⟩
  · rw [h1] at hr; cases hr
  · rw [h1] at hr; simp [bOf] at hr; omega
theorem usedL_pos {b : List UInt8} (h : 0 < b.length) : 0 < (usedL b).length := by
  have hm := (usedL_mem b (at8 b 0)).2 (at8_mem b 0 h)
  exact List.length_pos_of_mem hm
set_option maxRecDepth 100000 in
set_option maxHeartbeats 8000000 in
theorem put_law (w : World) (ad : Option Addr) (n cap : Nat) (b : List UInt8) (hb : Rd w 1 ad n cap (B8 b)) (hn : n ≤ 1000000) :
    Calls Try.prog 9 #[.slice ad n cap] w fun e w' => ∃ a c a2 c2, e = .returned (.tuple #[.slice a (usedL b).length c, .slice a2 (putL b).length c2]) ∧
      Own w' 5 1 w.heap.size a (usedL b).length c (B8 (usedL b)) ∧ Own w' 3 1 w.heap.size a2 (putL b).length c2 (N64 (putL b)) ∧ Below w.heap.size w w' := by
  have hl := hb.len8
  obtain ⟨Z, hZ⟩ : ∃ Z, putS b (usedL b) 0 = Z := ⟨_, rfl⟩
  have hZl := putS_len b (usedL b) 0
  have hml := usedL_len b
  have hpl : (putL b).length = Z.length + 1 := by unfold putL; rw [hZ]; simp
  have hpu : putL b = Z ++ [(usedL b).length + 1] := by unfold putL; rw [hZ]
  have hcp := fun W lo a c (ho : Own W 5 1 lo a n c (B8 (srtL b))) => compact_law W lo a n c b ho hn
  have hmem : ∀ x, x ∈ b → x ∈ usedL b := fun x hx => (usedL_mem b x).2 hx
  have hup : 0 < b.length → 0 < (usedL b).length := usedL_pos
  have hU0 : b.length = 0 → usedL b = [] := fun h => by rw [List.eq_nil_of_length_eq_zero h]; exact usedL_nil
  rw [hZ, hl] at hZl
  rw [hl] at hup hU0
  rw [hpl, hpu]
  generalize usedL b = U at *
  obtain ⟨m, hm⟩ : ∃ m, U.length = m := ⟨_, rfl⟩
  rw [hm] at hml hup ⊢
  simp only [hm] at hcp
  clear hpl hpu
  have HL := Lib.hid hl; clear hl
  have HM := Lib.hid hm; clear hm
  have HZ := Lib.hid hZ; clear hZ
  have HMEM := Lib.hid hmem; clear hmem
  have HCP := Lib.hid hcp; clear hcp
  go_enter Try.func9, Try.ntmps9
  go_wp2_with fail
  refine (vals_any w ad n cap).mono ?_
  rintro e w1 ⟨rfl, rfl⟩
  have bx := Boxed.new w 22 (.slice ad n cap)
  have hb1 := hb.alloc (.cells #[.slice ad n cap] 22)
  have b1 := (Below.refl w.heap.size w).alloc (Nat.le_refl _) (.cells #[.slice ad n cap] 22)
  generalize w.alloc (.cells #[.slice ad n cap] 22) = w1 at *
  go_wp2_with fail
  refine (sorted_law w1 w.heap.size ad n cap b hn bx hb1).mono ?_
  rintro e w2 ⟨a, c, rfl, o2, b2⟩
  have b12 := b1.trans (b2.mono b1.size)
  go_wp2_with fail
  refine (HCP.out w2 w1.heap.size a c o2).mono ?_
  rintro e w3 ⟨rfl, o3, g3⟩
  have b13 := Own.grown b12 o2 g3 b12.size b1.size
  replace o3 := o3.lower b1.size
  clear o2 g3 b12 b2 bx hb1 b1 HCP
  by_cases hn0 : n = 0
  · subst hn0
    obtain rfl : U = [] := hU0 rfl
    obtain rfl : m = 0 := by rw [← HM.out]; rfl
    obtain rfl : b = [] := List.eq_nil_of_length_eq_zero HL.out
    obtain rfl : Z = [] := by rw [← HZ.out, putS, digL_zero]
    clear HMEM hb
    obtain ⟨_, hc⟩ := o3.cases
    rcases hc with ⟨rfl, _, rfl⟩ | ⟨g, cur, rfl, _⟩
    · go_wp2_with fail
      refine (mover_none w3).mono ?_
      rintro e w4 ⟨v1, v2, rfl, b4⟩
      have ou4 := o3.below b4
      have b14 := b13.trans (b4.mono b13.size)
      obtain ⟨T, hT⟩ : ∃ T, w4.heap.size = T := ⟨_, rfl⟩
      have hT4 : T ≤ w4.heap.size := by omega
      have hwT : w.heap.size ≤ T := by have := b14.size; omega
      have hgT0 : ∀ x, (none : Option Addr) = some ⟨x, 0, none⟩ → x < T := fun x hx => by have := (ou4.blk hx).2; omega
      clear o3 b4 b13 hT
      go_wp2_with fail
      go_loopg [3, 6, 21] 0 (fun k v3 v6 v21 wr => v3 = .slice none 0 0 ∧ v6 = .int .i64 0 ∧ v21 = .int .i64 0 ∧ wr = w4)
      case atStart => exact ⟨rfl, rfl, rfl, rfl⟩
      case round =>
        obtain ⟨rfl, rfl, rfl, rfl⟩ := hrel
        have os4 : Own wr 3 1 T none 0 0 (N64 []) := Own.nil _ _ _ _
        have hdl := digL_len 0
        go_wp2_with (first
          | (go_at_call 19; refine (digits_zero _).mono ?_; rintro e wd ⟨ad', cd', rfl, od, bd⟩; have osd := os4.below bd; have hsd : T ≤ wd.heap.size := Nat.le_trans hT4 bd.size)
          | (refine wpList_app rfl _ _ _ rfl tI rfl rfl osd od.rd (by unfold maxLen; omega) (by omega) hsd ?_; intro a7 c7 w7 o7 g7 n7; have hs7 : T ≤ w7.heap.size := Nat.le_trans hsd g7.size)
          | (refine wpList_push (n := 0) rfl _ _ _ rfl tI rfl rfl o7 (ys := [.int .i64 1]) rfl (by simp [Value.oneCell']) (by unfold maxLen; omega) (by omega) hs7 ?_; intro a8 c8 w8 o8 g8 n8))
        have ou8 := ((ou4.below bd).other g7 (fun x hx e => by have := own_bOf osd e; have := hgT0 x hx; omega)).other g8 (fun x hx e => by have := own_bOf o7 e; have := hgT0 x hx; omega)
        have bw8 := Own.grown (Own.grown (b14.trans (bd.mono b14.size)) osd g7 (by omega) (by omega)) o7 g8 (by omega) (by omega)
        refine bodyPost_ret (results_tmp2 rfl _ _ _) rfl ?_
        exact ⟨_, _, a8, c8, rfl, ou8, o8.lower hwT, bw8⟩
    · go_wp2_with fail
      refine (mover_law w3 ⟨g, 0, none⟩ 0 c [] o3.rd (by omega)).mono ?_
      rintro e w4 ⟨L, R, g', c4, rfl, _, b4⟩
      have ou4 := o3.below b4
      have b14 := b13.trans (b4.mono b13.size)
      obtain ⟨T, hT⟩ : ∃ T, w4.heap.size = T := ⟨_, rfl⟩
      have hT4 : T ≤ w4.heap.size := by omega
      have hwT : w.heap.size ≤ T := by have := b14.size; omega
      have hgT0 : ∀ x, (some (⟨g, 0, none⟩ : Addr)) = some ⟨x, 0, none⟩ → x < T := fun x hx => by have := (ou4.blk hx).2; omega
      clear o3 b4 b13 hT
      go_wp2_with fail
      go_loopg [3, 6, 21] 0 (fun k v3 v6 v21 wr => v3 = .slice none 0 0 ∧ v6 = .int .i64 0 ∧ v21 = .int .i64 0 ∧ wr = w4)
      case atStart => exact ⟨rfl, rfl, rfl, rfl⟩
      case round =>
        obtain ⟨rfl, rfl, rfl, rfl⟩ := hrel
        have os4 : Own wr 3 1 T none 0 0 (N64 []) := Own.nil _ _ _ _
        have hdl := digL_len 0
        go_wp2_with (first
          | (go_at_call 19; refine (digits_zero _).mono ?_; rintro e wd ⟨ad', cd', rfl, od, bd⟩; have osd := os4.below bd; have hsd : T ≤ wd.heap.size := Nat.le_trans hT4 bd.size)
          | (refine wpList_app rfl _ _ _ rfl tI rfl rfl osd od.rd (by unfold maxLen; omega) (by omega) hsd ?_; intro a7 c7 w7 o7 g7 n7; have hs7 : T ≤ w7.heap.size := Nat.le_trans hsd g7.size)
          | (refine wpList_push (n := 0) rfl _ _ _ rfl tI rfl rfl o7 (ys := [.int .i64 1]) rfl (by simp [Value.oneCell']) (by unfold maxLen; omega) (by omega) hs7 ?_; intro a8 c8 w8 o8 g8 n8))
        have ou8 := ((ou4.below bd).other g7 (fun x hx e => by have := own_bOf osd e; have := hgT0 x hx; omega)).other g8 (fun x hx e => by have := own_bOf o7 e; have := hgT0 x hx; omega)
        have bw8 := Own.grown (Own.grown (b14.trans (bd.mono b14.size)) osd g7 (by omega) (by omega)) o7 g8 (by omega) (by omega)
        refine bodyPost_ret (results_tmp2 rfl _ _ _) rfl ?_
        exact ⟨_, _, a8, c8, rfl, ou8, o8.lower hwT, bw8⟩
  have hmp : 0 < m := hup (by omega)
  obtain ⟨g0, rfl, hg0⟩ : ∃ g, a = some ⟨g, 0, none⟩ ∧ w.heap.size ≤ g := by
    obtain ⟨_, hc⟩ := o3.cases
    rcases hc with ⟨h1, h2, _⟩ | ⟨g, cur, h1, h2, _⟩
    · omega
    · exact ⟨g, h1, h2⟩
  go_wp2_with fail
  refine (mover_law w3 ⟨g0, 0, none⟩ m c U o3.rd (by omega)).mono ?_
  rintro e w4 ⟨L, R, g, c4, rfl, mv, b4⟩
  have hg03 := (o3.blk rfl).2
  have ou4 := o3.below b4
  have b14 := b13.trans (b4.mono b13.size)
  have hB3 := b13.size
  obtain ⟨B3, hB3e⟩ : ∃ B3, w3.heap.size = B3 := ⟨_, rfl⟩
  rw [hB3e] at mv hg03 hB3
  obtain ⟨T, hT⟩ : ∃ T, w4.heap.size = T := ⟨_, rfl⟩
  have hLT := mv.bL.lt
  have hRT := mv.bR.lt
  have hgT := mv.ow.blk rfl
  have hL3 := mv.Llo
  have hR3 := mv.Rlo
  rw [hT] at hLT hRT hgT
  have hT4 : T ≤ w4.heap.size := by omega
  clear o3 b4 b13 hB3e hT
  go_wp2_with fail
  go_loopg [3, 6, 21] n (fun k v3 v6 v21 wr => ∃ (i : Nat) (S : List Nat) (ys : List UInt8) (r : Nat) (a2 : Option Addr) (c2 : Nat), i ≤ n ∧ n - i = k ∧ v3 = .slice a2 S.length c2 ∧ v6 = .int .i64 (r : Int) ∧ v21 = .int .i64 (i : Int) ∧ S.length + r ≤ i ∧ Hid (S ++ putS (b.drop i) ys r = Z) ∧ Hid (∀ x, x ∈ b → x ∈ ys) ∧ Below w.heap.size w wr ∧ T ≤ wr.heap.size ∧ Mov wr B3 L R g m c4 ys ∧ Own wr 5 1 w.heap.size (some ⟨g0, 0, none⟩) m c (B8 U) ∧ Own wr 3 1 T a2 S.length c2 (N64 S))
  case atStart => exact ⟨0, [], U, 0, none, 0, Nat.zero_le _, rfl, rfl, rfl, rfl, by simp, Lib.hid (by rw [List.drop_zero, HZ.out]; rfl), HMEM, b14, hT4, mv, ou4, Own.nil _ _ _ _⟩
  case round =>
    clear mv ou4 b14 hT4
    obtain ⟨i, S, ys, r, a2, c2, hin, rfl, rfl, rfl, rfl, hSr, hS, hmem, bw, hTr, mv, ou, os⟩ := hrel
    rename World => wr
    by_cases hlt : i < n
    · obtain ⟨ne, cb⟩ := (hb.below bw).get8 hlt
      obtain ⟨x, hx⟩ : ∃ x, at8 b i = x := ⟨_, rfl⟩
      rw [hx] at cb
      have hxm : x ∈ ys := hmem.out x (by rw [← hx]; exact at8_mem b i (by rw [HL.out]; exact hlt))
      have hpl := place_law wr L R g B3 m c4 ys x mv.bL mv.bR mv.ow mv.Lg (by omega) hxm
      have hds := putS_drop (ys := ys) (r := r) (by rw [HL.out]; exact hlt) hx
      have hklt := pos8_lt hxm
      have hylen := mv.ow.rd.len8
      have hmv2 : ∀ z, z ∈ b → z ∈ mvd ys (pos8 ys x) := fun z hz => (mvd_mem ys _ hklt z).2 (hmem.out z hz)
      generalize pos8 ys x = q at *
      have HDS := Lib.hid hds; clear hds
      have HMV := Lib.hid hmv2; clear hmv2
      have HX := Lib.hid hx; clear hx
      have HYL := Lib.hid hylen; clear hylen
      go_upto_region 7 with fail
      go_upto_region 8 with (refine hpl.mono ?_; rintro e w5 ⟨rfl, o5, g5⟩)
      have bw5 := mv.grown bw g5 (by omega) bw.size
      have ou5 := ou.other g5 (fun z hz e => by cases hz; cases e; omega)
      have os5 := os.other g5 (fun z hz e => by have := (os.blk hz).1; cases e; omega)
      have mv5 := mv.step o5 g5
      have hT5 : T ≤ w5.heap.size := Nat.le_trans hTr g5.size
      clear mv ou os bw hTr g5 o5 hpl cb
      have hgT0 : ∀ z, (some ⟨g0, 0, none⟩ : Option Addr) = some ⟨z, 0, none⟩ → z < T := fun z hz => by cases hz; omega
      by_cases hq : q = 0
      · subst hq
        go_wp2_with fail
        go_roundg (n - (i + 1))
        case measure => omega
        case rel => exact ⟨i + 1, S, mvd ys 0, r + 1, a2, c2, by omega, rfl, rfl, by simp, by simp, by omega, Lib.hid (by rw [← hS.out, HDS.out, if_pos trivial]), HMV, bw5, hT5, mv5, ou5, os5⟩
      · have hq0 : ((q : Int) == 0) = false := beq_eq_false_iff_ne.2 (by omega)
        have hdl := digL_len r
        have hq256 : q < 1000000 := by have := HYL.out; omega
        go_wp2_with (first
          | (go_at_call 19; refine (digits_law _ r (by omega)).mono ?_; rintro e wd ⟨ad', cd', rfl, od, bd⟩; have osd := (os5).below bd; have hsd : T ≤ wd.heap.size := Nat.le_trans hT5 bd.size)
          | (refine wpList_app rfl _ _ _ rfl tI rfl rfl osd od.rd (by unfold maxLen; omega) (by omega) hsd ?_; intro a7 c7 w7 o7 g7 n7; have hs7 : T ≤ w7.heap.size := Nat.le_trans hsd g7.size)
          | (refine wpList_push rfl _ _ _ rfl tI rfl rfl o7 (ys := [.int .i64 ((q : Int) + 1)]) rfl (by simp [Value.oneCell']) (by unfold maxLen; omega) (by omega) hs7 ?_; intro a8 c8 w8 o8 g8 n8))
        have ou8 := (((ou5).below bd).other g7 (fun x hx e => by have := own_bOf osd e; have := hgT0 x hx; omega)).other g8 (fun x hx e => by have := own_bOf o7 e; have := hgT0 x hx; omega)
        have bw8 := Own.grown (Own.grown ((bw5).trans (bd.mono (bw5).size)) osd g7 (by omega) (by omega)) o7 g8 (by omega) (by omega)
        have hs8 : T ≤ w8.heap.size := Nat.le_trans hs7 g8.size
        rw [N64_apps] at o8
        have mv8 := ((mv5.below bd).app g7 (fun z e => by have := own_bOf osd e; exact ⟨by omega, by omega, by omega⟩)).app g8 (fun z e => by have := own_bOf o7 e; exact ⟨by omega, by omega, by omega⟩)
        rw [show N64 (S ++ digL r) ++ [.int .i64 ((q : Int) + 1)] = N64 (S ++ digL r ++ [q + 1]) by simp [N64]] at o8
        have hlen : S.length + (digL r).length + 1 = (S ++ digL r ++ [q + 1]).length := by simp; omega
        go_roundg (n - (i + 1))
        case measure => omega
        case rel => exact ⟨i + 1, S ++ digL r ++ [q + 1], mvd ys q, 0, a8, c8, by omega, rfl, by rw [hlen], rfl, by simp, by simp; omega, Lib.hid (by rw [← hS.out, HDS.out, if_neg hq]; simp), HMV, bw8, hs8, mv8, ou8, by rw [← hlen]; exact o8⟩
    · obtain rfl : i = n := by omega
      have hgT0 : ∀ z, (some ⟨g0, 0, none⟩ : Option Addr) = some ⟨z, 0, none⟩ → z < T := fun z hz => by cases hz; omega
      have hZe := hS.out
      rw [List.drop_of_length_le (by rw [HL.out]; exact Nat.le_refl _), putS] at hZe
      have hlen : Z.length = S.length + (digL r).length := by rw [← hZe]; simp
      have hdl := digL_len r
      have HZE := Lib.hid hZe; clear hZe
      have HLEN := Lib.hid hlen; clear hlen
      go_wp2_with (first
        | (go_at_call 19; refine (digits_law _ r (by omega)).mono ?_; rintro e wd ⟨ad', cd', rfl, od, bd⟩; have osd := (os).below bd; have hsd : T ≤ wd.heap.size := Nat.le_trans hTr bd.size)
        | (refine wpList_app rfl _ _ _ rfl tI rfl rfl osd od.rd (by unfold maxLen; omega) (by omega) hsd ?_; intro a7 c7 w7 o7 g7 n7; have hs7 : T ≤ w7.heap.size := Nat.le_trans hsd g7.size)
        | (refine wpList_push rfl _ _ _ rfl tI rfl rfl o7 (ys := [.int .i64 ((m : Int) + 1)]) rfl (by simp [Value.oneCell']) (by unfold maxLen; omega) (by omega) hs7 ?_; intro a8 c8 w8 o8 g8 n8))
      have ou8 := (((ou).below bd).other g7 (fun x hx e => by have := own_bOf osd e; have := hgT0 x hx; omega)).other g8 (fun x hx e => by have := own_bOf o7 e; have := hgT0 x hx; omega)
      have bw8 := Own.grown (Own.grown ((bw).trans (bd.mono (bw).size)) osd g7 (by omega) (by omega)) o7 g8 (by omega) (by omega)
      have hs8 : T ≤ w8.heap.size := Nat.le_trans hs7 g8.size
      rw [N64_apps] at o8
      refine bodyPost_ret (results_tmp2 rfl _ _ _) rfl ?_
      refine ⟨some ⟨g0, 0, none⟩, c, a8, c8, by rw [HLEN.out]; rfl, ou8, ?_, bw8⟩
      rw [HLEN.out, ← HZE.out]
      have o9 := o8.lower (show w.heap.size ≤ T by omega)
      rw [show N64 (S ++ digL r) ++ [.int .i64 ((m : Int) + 1)] = N64 (S ++ digL r ++ [m + 1]) by simp [N64]] at o9
      exact o9
end Go.Proofs.Ytindbmfccgeikaa
