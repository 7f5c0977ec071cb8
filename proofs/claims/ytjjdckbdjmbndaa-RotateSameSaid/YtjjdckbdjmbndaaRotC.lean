/- rotate.Turn, and the document's Back and Turn: the walks. -/
import Derived.Test.YtjjdckbdjmbndaaRotB
namespace Go.Proofs.Ytjjdckbdjmbndaa
set_option linter.unusedSimpArgs false
set_option linter.unusedVariables false
open Go.RowKit

theorem run_text_at {P : Program} {t : TypeId} (hu : P.underlying t = some .string) (xs : List UInt8) (j : Nat) (hj : j < xs.length) (W : World) : (Instr.index t (.string (bstr xs)) (.int .i64 (j : Int))).run P W = .ok (.int .u8 ((at8 xs j).toNat : Int)) W := by
  have hs : (bstr xs).size = xs.length := bstr_size xs
  rw [run_index_string (P := P) W t (bstr xs) .i64 (j : Int) hu, dif_pos ⟨by omega, by omega⟩]
  simp only [Int.toNat_natCast]
  congr 2
  simp only [bstr, at8, List.getD_eq_getElem?_getD, List.getElem?_eq_getElem hj, Option.getD_some]
  rfl
theorem last_sign (b : List UInt8) {i : Nat} (hi : i < b.length) : at8 (txt b true i) (b.length - 1) = at8 b ((i + b.length - 1) % b.length) := by
  have hl := txt_lenR b i (by omega)
  have h := txt_sgn b true i (b.length - 1) hi (by omega)
  rw [sgn_in _ _ (by omega)] at h
  simp only [sy, if_true] at h
  rw [show i + b.length - 1 = i + (b.length - 1) by omega]
  exact UInt8.toNat_inj.1 (Nat.succ.inj h)
theorem lastL_take (b : List UInt8) (o : List Nat) (j : Nat) (hj : j < o.length) : (lastL b o).take (j + 1) = (lastL b o).take j ++ [at8 b ((atN o j + b.length - 1) % b.length)] := by
  rw [List.take_succ_eq_append_getElem (by rw [lastL_len]; exact hj)]
  simp [lastL, atN, hj]

set_option maxRecDepth 100000 in
set_option maxHeartbeats 4000000 in
theorem refBack_law (w : World) (ad : Option Addr) (n cap : Nat) (b : List UInt8) (hb : Rd w 1 ad n cap (B8 b)) (hn : n ≤ 100000) (at0 : Int) :
    Calls Try.prog 13 #[.slice ad n cap, .int .i64 at0] w fun e w' => Below w.heap.size w w' ∧
      ((¬ (0 ≤ at0 ∧ at0 < n) ∧ e = .returned (.tuple #[.slice none 0 0, .int .i64 2])) ∨
       (∃ (p : Nat) (a : Option Addr) (c : Nat), at0 = (p : Int) ∧ p < n ∧ e = .returned (.tuple #[.slice a n c, .int .i64 0]) ∧ Own w' 5 1 w.heap.size a n c (B8 (backL b p)))) := by
  have hl := hb.len8
  have HL := Lib.hid hl; clear hl
  by_cases hlo : at0 < 0
  · go_enter Try.func13, Try.ntmps13
    go_wp2
    refine bodyPost_ret (results_tmp2 rfl _ _ _) rfl ?_
    exact ⟨Below.refl _ _, .inl (by first | exact ⟨by omega, rfl⟩ | rfl)⟩
  by_cases hhi : (n : Int) ≤ at0
  · go_enter Try.func13, Try.ntmps13
    go_wp2
    refine bodyPost_ret (results_tmp2 rfl _ _ _) rfl ?_
    exact ⟨Below.refl _ _, .inl (by first | exact ⟨by omega, rfl⟩ | rfl)⟩
  obtain ⟨p, rfl⟩ : ∃ p : Nat, at0 = (p : Int) := ⟨at0.toNat, by omega⟩
  have hp : p < n := by omega
  obtain ⟨B, hB⟩ : ∃ B, w.heap.size = B := ⟨_, rfl⟩
  have HB := Lib.hid hB; clear hB
  have hW : ∀ k, seqAt (wayL b) p k < n := fun k => by have := seqAt_lt b (p := p) (by rw [HL.out]; omega) k; rw [HL.out] at this; exact this
  have HW := Lib.hid hW; clear hW
  go_enter Try.func13, Try.ntmps13
  go_wp2_with fail
  refine (refWay_law w ad n cap b hb hn).mono ?_
  rintro e w3 ⟨aw, cw, rfl, ow, b3⟩
  have c3 : Below B w w3 := by rw [HB.out] at b3; exact b3
  have hB3 : B ≤ w3.heap.size := by have := b3.size; rw [HB.out] at this; exact this
  clear b3
  go_wp2_with fail
  go_loopg [1, 7, 8] n (fun kk x y z wr => ∃ (j : Nat) (a : Option Addr) (c : Nat), j ≤ n ∧ kk = n - j ∧ x = .int .i64 ((seqAt (wayL b) p j : Nat) : Int) ∧ y = .slice a j c ∧ z = .int .i64 (j : Int) ∧ Below B w wr ∧ w3.heap.size ≤ wr.heap.size ∧ Own wr 3 1 B aw n cw (N64 (wayL b)) ∧ Own wr 5 1 w3.heap.size a j c (B8 (saidL b p j)))
  case atStart => exact ⟨0, none, 0, Nat.zero_le _, by simp, rfl, rfl, rfl, c3, Nat.le_refl _, by rw [HB.out] at ow; exact ow, by simp [saidL, B8]; exact Own.nil _ _ _ _⟩
  case round =>
    obtain ⟨j, a, c, hj, rfl, rfl, rfl, rfl, hbr, hsz, hw, ho⟩ := hrel
    rename World => wr
    have hbw : Below w.heap.size w wr := by rw [HB.out]; exact hbr
    by_cases hlt : j < n
    · have s0 := HW.out j
      have s1 := HW.out (j + 1)
      have e1 : seqAt (wayL b) p (j + 1) = atN (wayL b) (seqAt (wayL b) p j) := rfl
      obtain ⟨nw, cw1⟩ := hw.rd.getN s0
      rw [← e1] at cw1
      obtain ⟨nb, cb⟩ := (hb.below hbw).get8 s1
      have hsu := saidL_succ b p j
      have hap : Apart a aw := fun g h1 h2 => by
        have := (ho.blk h1).1
        have := (ow.blk h2).2
        omega
      generalize hv1 : seqAt (wayL b) p (j + 1) = v1 at *
      generalize hx : at8 b v1 = x at *
      have HV := Lib.hid hv1; clear hv1
      have HX := Lib.hid hx; clear hx
      have HSU := Lib.hid hsu; clear hsu
      generalize seqAt (wayL b) p j = v0 at *
      clear e1 ow
      go_wp2_with (refine wpList_push rfl _ _ _ rfl elB rfl rfl ho (ys := [.int .u8 (x.toNat : Int)]) rfl (by simp [Value.oneCell']) (by unfold maxLen; omega) (by omega) hsz ?_; intro a4 c4 w4 o4 g4 n4)
      have b4 : Below B w w4 := Own.grown hbr ho g4 (by omega) hB3
      have hw4 := hw.apart g4 hap ho.shape
      go_roundg (n - (j + 1))
      case measure => omega
      case rel =>
        refine ⟨j + 1, a4, c4, by omega, rfl, by rw [HV.out], rfl, by simp, b4, Nat.le_trans hsz g4.size, hw4, ?_⟩
        rw [HSU.out, ← B8_app]; exact o4
    · obtain rfl : n = j := by omega
      clear hlt hj
      go_wp2_with fail
      refine bodyPost_ret (results_tmp2 rfl _ _ _) rfl ?_
      refine ⟨hbw, .inr ⟨p, a, c, rfl, hp, rfl, ?_⟩⟩
      rw [backL, HL.out]
      exact ho.lower (by rw [HB.out]; exact hB3)

set_option maxRecDepth 100000 in
set_option maxHeartbeats 4000000 in
theorem turn_law (w : World) (ad : Option Addr) (n cap : Nat) (b : List UInt8) (hb : Rd w 1 ad n cap (B8 b)) (hn : n ≤ 100000) :
    Calls Try.prog 9 #[.slice ad n cap] w fun e w' => ∃ a c o, e = .returned (.tuple #[.slice a n c, .int .i64 ((zeroP o n : Nat) : Int)]) ∧ Ordered b true o ∧
      Own w' 5 1 w.heap.size a n c (B8 (lastL b o)) ∧ Below w.heap.size w w' := by
  have hl := hb.len8
  have HL := Lib.hid hl; clear hl
  obtain ⟨B, hB⟩ : ∃ B, w.heap.size = B := ⟨_, rfl⟩
  have HB := Lib.hid hB; clear hB
  go_enter Try.func9, Try.ntmps9
  go_wp2_with fail
  refine (rotations_law w ad n cap b hb hn).mono ?_
  rintro e w3 ⟨g3, o, rfl, ow, ord, b3⟩
  have c3 : Below B w w3 := by rw [HB.out] at b3; exact b3
  have hB3 : B ≤ w3.heap.size := by have := b3.size; rw [HB.out] at this; exact this
  have hol : o.length = n := by rw [ord.len, HL.out]
  have hlt3 := (ow.blk rfl).2
  have ORD := Lib.hid ord; clear ord
  have HOL := Lib.hid hol; clear hol
  clear b3
  go_wp2_with fail
  go_loopg [4, 5, 11] n (fun kk y x z wr => ∃ (j : Nat) (a : Option Addr) (c : Nat), j ≤ n ∧ kk = n - j ∧ x = .int .i64 ((zeroP o j : Nat) : Int) ∧ y = .slice a j c ∧ z = .int .i64 (j : Int) ∧ Below B w wr ∧ w3.heap.size ≤ wr.heap.size ∧ Own wr 3 1 B (some ⟨g3, 0, none⟩) n n (N64 o) ∧ Own wr 5 1 w3.heap.size a j c (B8 ((lastL b o).take j)))
  case atStart => exact ⟨0, none, 0, Nat.zero_le _, by simp, rfl, rfl, rfl, c3, Nat.le_refl _, by rw [HB.out] at ow; exact ow, by simp [B8]; exact Own.nil _ _ _ _⟩
  case round =>
    obtain ⟨j, a, c, hj, rfl, rfl, rfl, rfl, hbr, hsz, hw, ho⟩ := hrel
    rename World => wr
    have hbw : Below w.heap.size w wr := by rw [HB.out]; exact hbr
    by_cases hlt : j < n
    · obtain ⟨cw1, _⟩ := hw.getN hlt
      have hin := ORD.out.ord.lt (p := j) (by rw [HL.out]; exact hlt)
      rw [HL.out] at hin
      have htk := lastL_take b o j (by rw [HOL.out]; exact hlt)
      rw [HL.out] at htk
      have hz1 : zeroP o (j + 1) = if atN o j = 0 then j else zeroP o j := rfl
      have hzl := zeroP_lt o j
      generalize hzz : zeroP o (j + 1) = z1 at *
      have HZZ := Lib.hid hzz; clear hzz
      generalize zeroP o j = z0 at *
      generalize atN o j = i at *
      obtain ⟨q, hq⟩ : ∃ q, (i + n - 1) % n = q := ⟨_, rfl⟩
      rw [hq] at htk
      have hqn : q < n := by rw [← hq]; exact Nat.mod_lt _ (by omega)
      have hm1 : ((i : Int) + (n : Int) - 1).tmod (n : Int) = (q : Int) := by
        rw [show (i : Int) + (n : Int) - 1 = ((i + n - 1 : Nat) : Int) by omega, ← hq]; rfl
      have hn0 : ¬ n = 0 := by omega
      have hw1 : IntKind.i64.wrap ((i : Int) + (n : Int)) = (i : Int) + (n : Int) := IntWalk.i64_in _ (by omega)
      have hw2 : IntKind.i64.wrap ((i : Int) + (n : Int) - 1) = (i : Int) + (n : Int) - 1 := IntWalk.i64_in _ (by omega)
      have hw3 : IntKind.i64.wrap (q : Int) = (q : Int) := IntWalk.i64_in _ (by omega)
      obtain ⟨nb, cb⟩ := (hb.below hbw).get8 hqn
      generalize hx : at8 b q = x at *
      have HX := Lib.hid hx; clear hx
      have HTK := Lib.hid htk; clear htk
      have hap : Apart a (some ⟨g3, 0, none⟩) := fun g h1 h2 => by
        cases h2
        have := (ho.blk h1).1
        omega
      clear hq
      by_cases hi0 : i = 0
      · subst hi0
        rw [if_pos rfl] at hz1
        have hcz : ((0 : Nat) : Int) = 0 := rfl
        have HZ := Lib.hid hz1; clear hz1
        rw [hcz] at cw1
        have hw1' : IntKind.i64.wrap (n : Int) = (n : Int) := IntWalk.i64_in _ (by omega)
        have hw2' : IntKind.i64.wrap ((n : Int) - 1) = (n : Int) - 1 := IntWalk.i64_in _ (by omega)
        have hm1' : ((n : Int) - 1).tmod (n : Int) = (q : Int) := by rw [← hm1]; simp
        clear hm1 hw1 hw2 hcz
        go_wp2_with (refine wpList_push rfl _ _ _ rfl elB rfl rfl ho (ys := [.int .u8 (x.toNat : Int)]) rfl (by simp [Value.oneCell']) (by unfold maxLen; omega) (by omega) hsz ?_; intro a4 c4 w4 o4 g4 n4)
        have b4 : Below B w w4 := Own.grown hbr ho g4 (by omega) hB3
        have hw4 := hw.apart g4 hap ho.shape
        go_roundg (n - (j + 1))
        case measure => omega
        case rel =>
          refine ⟨j + 1, a4, c4, by omega, rfl, by rw [HZZ.out, HZ.out], rfl, by simp, b4, Nat.le_trans hsz g4.size, hw4, ?_⟩
          rw [HTK.out, ← B8_app]; exact o4
      · rw [if_neg hi0] at hz1
        have HZ := Lib.hid hz1; clear hz1
        have hi0' : ¬ (i : Int) = 0 := by omega
        go_wp2_with (refine wpList_push rfl _ _ _ rfl elB rfl rfl ho (ys := [.int .u8 (x.toNat : Int)]) rfl (by simp [Value.oneCell']) (by unfold maxLen; omega) (by omega) hsz ?_; intro a4 c4 w4 o4 g4 n4)
        have b4 : Below B w w4 := Own.grown hbr ho g4 (by omega) hB3
        have hw4 := hw.apart g4 hap ho.shape
        go_roundg (n - (j + 1))
        case measure => omega
        case rel =>
          refine ⟨j + 1, a4, c4, by omega, rfl, by rw [HZZ.out, HZ.out], rfl, by simp, b4, Nat.le_trans hsz g4.size, hw4, ?_⟩
          rw [HTK.out, ← B8_app]; exact o4
    · obtain rfl : n = j := by omega
      clear hlt hj
      go_wp2_with fail
      refine bodyPost_ret (results_tmp2 rfl _ _ _) rfl ?_
      refine ⟨a, c, o, rfl, ORD.out, ?_, hbw⟩
      rw [List.take_of_length_le (by rw [lastL_len, HOL.out]; exact Nat.le_refl _)] at ho
      exact ho.lower (by rw [HB.out]; exact hB3)

set_option maxRecDepth 100000 in
set_option maxHeartbeats 4000000 in
theorem refTurn_law (w : World) (ad : Option Addr) (n cap : Nat) (b : List UInt8) (hb : Rd w 1 ad n cap (B8 b)) (hn : n ≤ 100000) :
    Calls Try.prog 10 #[.slice ad n cap] w fun e w' => ∃ a c o, e = .returned (.tuple #[.slice a n c, .int .i64 ((zeroP o n : Nat) : Int)]) ∧ Ordered b true o ∧
      Own w' 5 1 w.heap.size a n c (B8 (lastL b o)) ∧ Below w.heap.size w w' := by
  have hl := hb.len8
  have HL := Lib.hid hl; clear hl
  obtain ⟨B, hB⟩ : ∃ B, w.heap.size = B := ⟨_, rfl⟩
  have HB := Lib.hid hB; clear hB
  go_enter Try.func10, Try.ntmps10
  go_wp2_with fail
  refine (orderR_law w ad n cap b hb hn).mono ?_
  rintro e w3 ⟨ag, cg, o, rfl, ow, ord, b3⟩
  have c3 : Below B w w3 := by rw [HB.out] at b3; exact b3
  have hB3 : B ≤ w3.heap.size := by have := b3.size; rw [HB.out] at this; exact this
  have hol : o.length = n := by rw [ord.len, HL.out]
  have ORD := Lib.hid ord; clear ord
  have HOL := Lib.hid hol; clear hol
  clear b3
  go_wp2_with fail
  go_loopg [5, 6, 7] n (fun kk y x z wr => ∃ (j : Nat) (a : Option Addr) (c : Nat), j ≤ n ∧ kk = n - j ∧ x = .int .i64 ((zeroP o j : Nat) : Int) ∧ y = .slice a j c ∧ z = .int .i64 (j : Int) ∧ Below B w wr ∧ w3.heap.size ≤ wr.heap.size ∧ Own wr 3 1 B ag n cg (N64 o) ∧ Own wr 5 1 w3.heap.size a j c (B8 ((lastL b o).take j)))
  case atStart => exact ⟨0, none, 0, Nat.zero_le _, by simp, rfl, rfl, rfl, c3, Nat.le_refl _, by rw [HB.out] at ow; exact ow, by simp [B8]; exact Own.nil _ _ _ _⟩
  case round =>
    obtain ⟨j, a, c, hj, rfl, rfl, rfl, rfl, hbr, hsz, hw, ho⟩ := hrel
    rename World => wr
    have hbw : Below w.heap.size w wr := by rw [HB.out]; exact hbr
    by_cases hlt : j < n
    · obtain ⟨nw, cw1⟩ := hw.rd.getN hlt
      have hin := ORD.out.ord.lt (p := j) (by rw [HL.out]; exact hlt)
      have hls := last_sign b hin
      rw [HL.out] at hin hls
      have htk := lastL_take b o j (by rw [HOL.out]; exact hlt)
      rw [HL.out, ← hls] at htk
      clear hls
      have hz1 : zeroP o (j + 1) = if atN o j = 0 then j else zeroP o j := rfl
      have hzl := zeroP_lt o j
      generalize hzz : zeroP o (j + 1) = z1 at *
      have HZZ := Lib.hid hzz; clear hzz
      generalize zeroP o j = z0 at *
      generalize hi00 : atN o j = i at *
      have HI0 := Lib.hid hi00; clear hi00
      have htl : (txt b true i).length = n := by rw [txt_lenR b i (by rw [HL.out]; omega), HL.out]
      have hrd := hb.below hbw
      have HTL := Lib.hid htl
      go_wp2_with fail
      clear htl
      refine (rotation_law wr ad n cap b i hrd (by omega)).mono ?_
      rintro e w20 ⟨rfl, b20⟩
      have hsz20 : (bstr (txt b true i)).size = n := by rw [bstr_size, HTL.out]
      have hn1 : (n : Int) - 1 = ((n - 1 : Nat) : Int) := by omega
      have hix := fun W => run_text_at (P := Try.prog) Try.underlying9 (txt b true i) (n - 1) (by rw [HTL.out]; omega) W
      generalize hx : at8 (txt b true i) (n - 1) = x at *
      have HX := Lib.hid hx; clear hx
      have HTK := Lib.hid htk; clear htk
      have hwn : IntKind.i64.wrap ((n - 1 : Nat) : Int) = ((n - 1 : Nat) : Int) := IntWalk.i64_in _ (by omega)
      generalize n - 1 = nm at *
      have ho2 := ho.below b20
      have hw2 := hw.below b20
      have hs20 : w3.heap.size ≤ w20.heap.size := Nat.le_trans hsz b20.size
      have hb20 : Below B w w20 := hbr.trans (b20.mono (by omega))
      have cw2 := cell_below cw1 b20
      have hap : Apart a ag := fun g h1 h2 => by
        have := (ho.blk h1).1
        have := (ow.blk h2).2
        omega
      clear hw ho hbr hrd b20 cw1 ow
      by_cases hi0 : i = 0
      · subst hi0
        rw [if_pos rfl] at hz1
        have HZ := Lib.hid hz1; clear hz1
        have HI : Hid (atN o j = 0) := HI0
        go_wp2_with (refine wpList_push rfl _ _ _ rfl elB rfl rfl ho2 (ys := [.int .u8 (x.toNat : Int)]) rfl (by simp [Value.oneCell']) (by unfold maxLen; omega) (by omega) hs20 ?_; intro a4 c4 w4 o4 g4 n4; have hw4 := hw2.apart g4 hap ho2.shape; have cw4 : w4.cell? (sAt ag j) = some (.int .i64 0) := (by have h := (hw4.rd.getN hlt).2; rw [HI.out] at h; exact h))
        have b4 : Below B w w4 := Own.grown hb20 ho2 g4 (by omega) hB3
        go_roundg (n - (j + 1))
        case measure => omega
        case rel =>
          refine ⟨j + 1, a4, c4, by omega, rfl, by rw [HZZ.out, HZ.out], rfl, by simp, b4, Nat.le_trans hs20 g4.size, hw4, ?_⟩
          rw [HTK.out, ← B8_app]; exact o4
      · rw [if_neg hi0] at hz1
        have HZ := Lib.hid hz1; clear hz1
        have hi0' : ¬ (i : Int) = 0 := by omega
        have HI : Hid (atN o j = i) := HI0
        go_wp2_with (refine wpList_push rfl _ _ _ rfl elB rfl rfl ho2 (ys := [.int .u8 (x.toNat : Int)]) rfl (by simp [Value.oneCell']) (by unfold maxLen; omega) (by omega) hs20 ?_; intro a4 c4 w4 o4 g4 n4; have hw4 := hw2.apart g4 hap ho2.shape; have cw4 : w4.cell? (sAt ag j) = some (.int .i64 (i : Int)) := (by have h := (hw4.rd.getN hlt).2; rw [HI.out] at h; exact h))
        have b4 : Below B w w4 := Own.grown hb20 ho2 g4 (by omega) hB3
        go_roundg (n - (j + 1))
        case measure => omega
        case rel =>
          refine ⟨j + 1, a4, c4, by omega, rfl, by rw [HZZ.out, HZ.out], rfl, by simp, b4, Nat.le_trans hs20 g4.size, hw4, ?_⟩
          rw [HTK.out, ← B8_app]; exact o4
    · obtain rfl : n = j := by omega
      clear hlt hj
      go_wp2_with fail
      refine bodyPost_ret (results_tmp2 rfl _ _ _) rfl ?_
      refine ⟨a, c, o, rfl, ORD.out, ?_, hbw⟩
      rw [List.take_of_length_le (by rw [lastL_len, HOL.out]; exact Nat.le_refl _)] at ho
      exact ho.lower (by rw [HB.out]; exact hB3)
end Go.Proofs.Ytjjdckbdjmbndaa
