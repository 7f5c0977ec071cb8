/- pressworkref13.Order: the walk, for ends and for rotations. -/
import Derived.Test.YtjjdckbdjmbndaaSufH
namespace Go.Proofs.Ytjjdckbdjmbndaa
set_option linter.unusedSimpArgs false
set_option linter.unusedVariables false
open Go.RowKit

theorem end_b (w : World) (ad : Option Addr) (n cap : Nat) (b : List UInt8) (i : Nat) (hb : Rd w 1 ad n cap (B8 b)) (hi : i ≤ n) :
    Calls Try.prog 22 #[.slice ad n cap, .int .i64 (i : Int)] w fun e w' => e = .returned (.string (bstr (txt b false i))) ∧ Below w.heap.size w w' :=
  (end_law w ad n cap b i hb hi).mono fun e w' ⟨h1, h2⟩ => ⟨h1, by rw [h2]; exact Below.refl _ _⟩
theorem Own.short {w : World} {e lo : Nat} {ad : Option Addr} {n cap : Nat} {o : List Nat} (h : Own w e 1 lo ad n cap (N64 o)) (k : Nat) (hk : k ≤ n) : Own w e 1 lo ad k cap (N64 (o.take k)) := by
  have hl := h.rd.lenN
  have h1 := h.1
  refine ⟨⟨by simp [N64_len, hl]; omega, ?_⟩, N64_one _⟩
  rcases h1.2 with ⟨h2, h3⟩ | ⟨g, cp, cur, hv, hb, hg, hn, hm, hs, ht⟩
  · simp at h2; obtain ⟨rfl, rfl, rfl⟩ := h2
    exact .inl ⟨by simp; omega, by omega⟩
  · simp at hv; obtain ⟨rfl, rfl⟩ := hv
    exact .inr ⟨g, cap, cur, rfl, hb, hg, by omega, hm, hs, by rw [← N64_take, ← ht, List.take_take]; congr 1; omega⟩
theorem Rd.cutN {w : World} {ad : Option Addr} {n cap : Nat} {o : List Nat} (h : Rd w 1 ad n cap (N64 o)) (i : Nat) (hi : i ≤ n) : Rd w 1 (cutA ad i cap) (n - i) (cap - i) (N64 (o.drop i)) := by
  have h1 := h.cut i n hi (Nat.le_refl _)
  rwa [show (N64 o).take n = N64 o by rw [List.take_of_length_le]; rw [N64_len, h.lenN]; exact Nat.le_refl _, N64_drop] at h1

set_option maxRecDepth 100000 in
set_option maxHeartbeats 4000000 in
theorem orderE_law (w : World) (ad : Option Addr) (n cap : Nat) (b : List UInt8) (hb : Rd w 1 ad n cap (B8 b)) (hn : n ≤ 100000) :
    Calls Try.prog 15 #[.slice ad n cap, .bool false] w fun e w' =>
      ∃ a c o, e = .returned (.slice a n c) ∧ Own w' 3 1 w.heap.size a n c (N64 o) ∧ Ordered b false o ∧ Below w.heap.size w w' := by
  have hl := hb.len8
  have HL := Lib.hid hl; clear hl
  obtain ⟨B, hB⟩ : ∃ B, w.heap.size = B := ⟨_, rfl⟩
  have HB := Lib.hid hB; clear hB
  go_enter Try.func15, Try.ntmps15
  go_wp2_with fail
  go_loopg [5, 6] n (fun kk x i wr => ∃ (j : Nat) (o : List Nat) (a : Option Addr) (c : Nat), j ≤ n ∧ kk = n - j ∧ x = .slice a j c ∧ i = .int .i64 j ∧ Below B w wr ∧ Own wr 3 1 B a j c (N64 o) ∧ Hid (Part b false j o))
  case atStart => exact ⟨0, [], none, 0, Nat.zero_le _, by simp, rfl, rfl, Below.refl _ _, Own.nil _ _ _ _, Lib.hid (Part.nil b false)⟩
  case round =>
    obtain ⟨j, o, a, c, hj, rfl, rfl, rfl, hbr, oa, hP⟩ := hrel
    rename World => wr
    by_cases hlt : j < n
    · have hbw : Below w.heap.size w wr := by rw [HB.out]; exact hbr
      have rb := hb.below hbw
      go_wp2_with fail
      refine (end_b wr ad n cap b j rb (Nat.le_of_lt hlt)).mono ?_
      rintro e w2 ⟨rfl, b2⟩
      have hbo : Below B w w2 := hbr.trans (b2.mono (by have := hbr.size; rw [HB.out] at this; exact this))
      have oo := oa.below b2
      clear b2 oa hbr hbw rb
      rename World => wo
      go_wp2_with fail
      go_loopg [8] j (fun kk x wi => ∃ k : Nat, k ≤ j ∧ kk = j - k ∧ x = .int .i64 (k : Int) ∧ Below B w wi ∧ Own wi 3 1 B a j c (N64 o) ∧ Hid (∀ q, q < k → (!(Op.bytesLess (txt b false (atN o q)) (txt b false j) || txt b false (atN o q) == txt b false j)) = false))
      case atStart => exact ⟨0, Nat.zero_le _, by simp, rfl, hbo, oo, Lib.hid fun q hq => by omega⟩
      case round =>
        obtain ⟨k, hk, rfl, rfl, hbi, oi, hq⟩ := hrel
        rename World => wi
        clear hbo oo
        by_cases hkl : k < j
        · have hbw : Below w.heap.size w wi := by rw [HB.out]; exact hbi
          have rb := hb.below hbw
          obtain ⟨nx, cx⟩ := oi.rd.getN hkl
          obtain ⟨q, hqe⟩ : ∃ q, atN o k = q := ⟨_, rfl⟩
          have hqn : q ≤ n := by
            have : atN o k < j := by rw [atN_get _ _ (by rw [hP.out.len]; exact hkl)]; exact (hP.out.mem _).1 (List.getElem_mem _)
            omega
          rw [hqe] at cx
          have HQE := Lib.hid hqe; clear hqe
          go_wp2_with fail
          refine (end_b wi ad n cap b q rb hqn).mono ?_
          rintro e w2 ⟨rfl, b2⟩
          have hbi2 : Below B w w2 := hbi.trans (b2.mono (by have := hbi.size; rw [HB.out] at this; exact this))
          have oi2 := oi.below b2
          clear b2 oi hbi hbw rb cx nx
          cases hgt : (!(Op.bytesLess (txt b false q) (txt b false j) || txt b false q == txt b false j)) with
          | false =>
            have HGT := Lib.hid hgt
            go_wp2_with fail
            go_roundg (j - (k + 1))
            case measure => omega
            case rel => exact ⟨k + 1, by omega, rfl, by simp, hbi2, oi2, Lib.hid fun p hp => by
              by_cases e : p = k
              · rw [e, HQE.out]; exact HGT.out
              · exact hq.out p (by omega)⟩
          | true =>
            have HGT := Lib.hid hgt
            have hbi := hbi2
            have oi := oi2
            clear hbi2 oi2
            have hBi : B ≤ w2.heap.size := by have := hbi.size; rw [HB.out] at this; exact this
            have hla := oi.rd.lenN
            have HLA := Lib.hid hla; clear hla
            have hpart := hP.out.put (by rw [HL.out]; exact hlt) k hk hq.out (fun _ => by rw [HQE.out]; exact HGT.out)
            have HPT := Lib.hid hpart; clear hpart
            have hcut := fun W => run_cut (P := Try.prog) Try.underlying34 sizeI oi.rd k hk W
            have hcr := oi.rd.cutN k hk
            have hkc : (k : Int) ≤ (c : Int) := by have := oi.rd.ncap; omega
            have HM1 : Hid (j - k ≤ maxLen ∧ (j - k) * 8 ≤ 140737488355328 ∧ k + 1 ≤ maxLen ∧ (k + 1) * 8 ≤ 140737488355328 ∧ k + 1 + (j - k) ≤ maxLen ∧ (k + 1 + (j - k)) * 8 ≤ 140737488355328) := Lib.hid (by unfold maxLen; omega)
            go_upto_region 15 with fail
            go_upto_region 16 with (refine wpList_clone rfl _ _ _ rfl tI rfl rfl hcr HM1.out.1 HM1.out.2.1 ?_; intro ar cr w3 or3 b3 s3; have S3 := Lib.hid s3; clear s3)
            have ap : Apart a ar := fun g h1 h2 => by
              have := (oi.blk h1).2
              have := (or3.blk h2).1
              omega
            have osh := (oi.below b3).short k hk
            have b3' := hbi.trans (b3.mono hBi)
            have hB3 : B ≤ w3.heap.size := Nat.le_trans hBi b3.size
            clear hcr hcut b3
            have HB3 := Lib.hid b3'; clear b3'
            have HAP := Lib.hid ap; clear ap
            go_wp2_with (first
              | (refine wpList_push rfl _ _ _ rfl tI rfl rfl osh (ys := [.int .i64 (j : Int)]) rfl (by simp [Value.oneCell']) HM1.out.2.2.1 HM1.out.2.2.2.1 hB3 ?_; intro a4 c4 w4 o4 g4 n4; have or4 := (or3.apart g4 HAP.out osh.shape); have or4r := or4.rd; have b4 := Own.grown HB3.out osh g4 hB3 (Nat.le_refl _); have hB4 : B ≤ w4.heap.size := Nat.le_trans hB3 g4.size; clear or4 or3; have HB4 := Lib.hid b4; clear b4)
              | (refine wpList_app rfl _ _ _ rfl tI rfl rfl o4 or4r HM1.out.2.2.2.2.1 HM1.out.2.2.2.2.2 hB4 ?_; intro a5 c5 w5 o5 g5 n5; have b5 := Own.grown HB4.out o4 g5 hB4 (Nat.le_refl _)))
            have hB5 : B ≤ w5.heap.size := Nat.le_trans hB4 g5.size
            go_roundg (n - (j + 1))
            case measure => omega
            case rel =>
              have e : k + 1 + (j - k) = j + 1 := by omega
              rw [e] at o5
              refine ⟨j + 1, o.take k ++ j :: o.drop k, a5, c5, by omega, rfl, by rw [e], by simp, b5, ?_, HPT⟩
              have e2 : N64 (o.take k) ++ [Value.int .i64 (j : Int)] ++ N64 (o.drop k) = N64 (o.take k ++ j :: o.drop k) := by simp [N64]
              rw [← e2]; exact o5
        · have hz := hkl
          have hBi : B ≤ wi.heap.size := by have := hbi.size; rw [HB.out] at this; exact this
          have hla := oi.rd.lenN
          have HLA := Lib.hid hla; clear hla
          have hpart := hP.out.put (by rw [HL.out]; exact hlt) k hk hq.out (fun h => absurd h hkl)
          have HPT := Lib.hid hpart; clear hpart
          have hcut := fun W => run_cut (P := Try.prog) Try.underlying34 sizeI oi.rd k hk W
          have hcr := oi.rd.cutN k hk
          have hkc : (k : Int) ≤ (c : Int) := by have := oi.rd.ncap; omega
          have HM1 : Hid (j - k ≤ maxLen ∧ (j - k) * 8 ≤ 140737488355328 ∧ k + 1 ≤ maxLen ∧ (k + 1) * 8 ≤ 140737488355328 ∧ k + 1 + (j - k) ≤ maxLen ∧ (k + 1 + (j - k)) * 8 ≤ 140737488355328) := Lib.hid (by unfold maxLen; omega)
          go_upto_region 15 with fail
          go_upto_region 16 with (refine wpList_clone rfl _ _ _ rfl tI rfl rfl hcr HM1.out.1 HM1.out.2.1 ?_; intro ar cr w3 or3 b3 s3; have S3 := Lib.hid s3; clear s3)
          have ap : Apart a ar := fun g h1 h2 => by
            have := (oi.blk h1).2
            have := (or3.blk h2).1
            omega
          have osh := (oi.below b3).short k hk
          have b3' := hbi.trans (b3.mono hBi)
          have hB3 : B ≤ w3.heap.size := Nat.le_trans hBi b3.size
          clear hcr hcut b3
          have HB3 := Lib.hid b3'; clear b3'
          have HAP := Lib.hid ap; clear ap
          go_wp2_with (first
            | (refine wpList_push rfl _ _ _ rfl tI rfl rfl osh (ys := [.int .i64 (j : Int)]) rfl (by simp [Value.oneCell']) HM1.out.2.2.1 HM1.out.2.2.2.1 hB3 ?_; intro a4 c4 w4 o4 g4 n4; have or4 := (or3.apart g4 HAP.out osh.shape); have or4r := or4.rd; have b4 := Own.grown HB3.out osh g4 hB3 (Nat.le_refl _); have hB4 : B ≤ w4.heap.size := Nat.le_trans hB3 g4.size; clear or4 or3; have HB4 := Lib.hid b4; clear b4)
            | (refine wpList_app rfl _ _ _ rfl tI rfl rfl o4 or4r HM1.out.2.2.2.2.1 HM1.out.2.2.2.2.2 hB4 ?_; intro a5 c5 w5 o5 g5 n5; have b5 := Own.grown HB4.out o4 g5 hB4 (Nat.le_refl _)))
          have hB5 : B ≤ w5.heap.size := Nat.le_trans hB4 g5.size
          go_roundg (n - (j + 1))
          case measure => omega
          case rel =>
            have e : k + 1 + (j - k) = j + 1 := by omega
            rw [e] at o5
            refine ⟨j + 1, o.take k ++ j :: o.drop k, a5, c5, by omega, rfl, by rw [e], by simp, b5, ?_, HPT⟩
            have e2 : N64 (o.take k) ++ [Value.int .i64 (j : Int)] ++ N64 (o.drop k) = N64 (o.take k ++ j :: o.drop k) := by simp [N64]
            rw [← e2]; exact o5
    · obtain rfl : n = j := by omega
      have hbw : Below w.heap.size w wr := by rw [HB.out]; exact hbr
      have hord : Ordered b false o := Part.all (by rw [HL.out]; exact hP.out)
      have HO := Lib.hid hord; clear hord
      go_wp2_with fail
      go_ret
      exact ⟨a, c, o, rfl, by rw [HB.out]; exact oa, HO.out, hbw⟩

set_option maxRecDepth 100000 in
set_option maxHeartbeats 4000000 in
theorem orderR_law (w : World) (ad : Option Addr) (n cap : Nat) (b : List UInt8) (hb : Rd w 1 ad n cap (B8 b)) (hn : n ≤ 100000) :
    Calls Try.prog 15 #[.slice ad n cap, .bool true] w fun e w' =>
      ∃ a c o, e = .returned (.slice a n c) ∧ Own w' 3 1 w.heap.size a n c (N64 o) ∧ Ordered b true o ∧ Below w.heap.size w w' := by
  have hl := hb.len8
  have HL := Lib.hid hl; clear hl
  obtain ⟨B, hB⟩ : ∃ B, w.heap.size = B := ⟨_, rfl⟩
  have HB := Lib.hid hB; clear hB
  go_enter Try.func15, Try.ntmps15
  go_wp2_with fail
  go_loopg [5, 6] n (fun kk x i wr => ∃ (j : Nat) (o : List Nat) (a : Option Addr) (c : Nat), j ≤ n ∧ kk = n - j ∧ x = .slice a j c ∧ i = .int .i64 j ∧ Below B w wr ∧ Own wr 3 1 B a j c (N64 o) ∧ Hid (Part b true j o))
  case atStart => exact ⟨0, [], none, 0, Nat.zero_le _, by simp, rfl, rfl, Below.refl _ _, Own.nil _ _ _ _, Lib.hid (Part.nil b true)⟩
  case round =>
    obtain ⟨j, o, a, c, hj, rfl, rfl, rfl, hbr, oa, hP⟩ := hrel
    rename World => wr
    by_cases hlt : j < n
    · have hbw : Below w.heap.size w wr := by rw [HB.out]; exact hbr
      have rb := hb.below hbw
      go_wp2_with fail
      refine (end_b wr ad n cap b j rb (Nat.le_of_lt hlt)).mono ?_
      rintro e w20 ⟨rfl, b20⟩
      go_wp2_with fail
      refine (rotation_law w20 ad n cap b j ((rb).below b20) (Nat.le_of_lt hlt)).mono ?_
      rintro e w2 ⟨rfl, b21⟩
      have b2 := b20.trans (b21.mono b20.size)
      clear b20 b21
      have hbo : Below B w w2 := hbr.trans (b2.mono (by have := hbr.size; rw [HB.out] at this; exact this))
      have oo := oa.below b2
      clear b2 oa hbr hbw rb
      rename World => wo
      go_wp2_with fail
      go_loopg [8] j (fun kk x wi => ∃ k : Nat, k ≤ j ∧ kk = j - k ∧ x = .int .i64 (k : Int) ∧ Below B w wi ∧ Own wi 3 1 B a j c (N64 o) ∧ Hid (∀ q, q < k → (!(Op.bytesLess (txt b true (atN o q)) (txt b true j) || txt b true (atN o q) == txt b true j)) = false))
      case atStart => exact ⟨0, Nat.zero_le _, by simp, rfl, hbo, oo, Lib.hid fun q hq => by omega⟩
      case round =>
        obtain ⟨k, hk, rfl, rfl, hbi, oi, hq⟩ := hrel
        rename World => wi
        clear hbo oo
        by_cases hkl : k < j
        · have hbw : Below w.heap.size w wi := by rw [HB.out]; exact hbi
          have rb := hb.below hbw
          obtain ⟨nx, cx⟩ := oi.rd.getN hkl
          obtain ⟨q, hqe⟩ : ∃ q, atN o k = q := ⟨_, rfl⟩
          have hqn : q ≤ n := by
            have : atN o k < j := by rw [atN_get _ _ (by rw [hP.out.len]; exact hkl)]; exact (hP.out.mem _).1 (List.getElem_mem _)
            omega
          rw [hqe] at cx
          have HQE := Lib.hid hqe; clear hqe
          go_wp2_with fail
          refine (end_b wi ad n cap b q rb hqn).mono ?_
          rintro e w20 ⟨rfl, b20⟩
          have cx := cell_below cx b20
          go_wp2_with fail
          refine (rotation_law w20 ad n cap b q ((rb).below b20) hqn).mono ?_
          rintro e w2 ⟨rfl, b21⟩
          have b2 := b20.trans (b21.mono b20.size)
          clear b20 b21
          have hbi2 : Below B w w2 := hbi.trans (b2.mono (by have := hbi.size; rw [HB.out] at this; exact this))
          have oi2 := oi.below b2
          clear b2 oi hbi hbw rb cx nx
          cases hgt : (!(Op.bytesLess (txt b true q) (txt b true j) || txt b true q == txt b true j)) with
          | false =>
            have HGT := Lib.hid hgt
            go_wp2_with fail
            go_roundg (j - (k + 1))
            case measure => omega
            case rel => exact ⟨k + 1, by omega, rfl, by simp, hbi2, oi2, Lib.hid fun p hp => by
              by_cases e : p = k
              · rw [e, HQE.out]; exact HGT.out
              · exact hq.out p (by omega)⟩
          | true =>
            have HGT := Lib.hid hgt
            have hbi := hbi2
            have oi := oi2
            clear hbi2 oi2
            have hBi : B ≤ w2.heap.size := by have := hbi.size; rw [HB.out] at this; exact this
            have hla := oi.rd.lenN
            have HLA := Lib.hid hla; clear hla
            have hpart := hP.out.put (by rw [HL.out]; exact hlt) k hk hq.out (fun _ => by rw [HQE.out]; exact HGT.out)
            have HPT := Lib.hid hpart; clear hpart
            have hcut := fun W => run_cut (P := Try.prog) Try.underlying34 sizeI oi.rd k hk W
            have hcr := oi.rd.cutN k hk
            have hkc : (k : Int) ≤ (c : Int) := by have := oi.rd.ncap; omega
            have HM1 : Hid (j - k ≤ maxLen ∧ (j - k) * 8 ≤ 140737488355328 ∧ k + 1 ≤ maxLen ∧ (k + 1) * 8 ≤ 140737488355328 ∧ k + 1 + (j - k) ≤ maxLen ∧ (k + 1 + (j - k)) * 8 ≤ 140737488355328) := Lib.hid (by unfold maxLen; omega)
            go_upto_region 15 with fail
            go_upto_region 16 with (refine wpList_clone rfl _ _ _ rfl tI rfl rfl hcr HM1.out.1 HM1.out.2.1 ?_; intro ar cr w3 or3 b3 s3; have S3 := Lib.hid s3; clear s3)
            have ap : Apart a ar := fun g h1 h2 => by
              have := (oi.blk h1).2
              have := (or3.blk h2).1
              omega
            have osh := (oi.below b3).short k hk
            have b3' := hbi.trans (b3.mono hBi)
            have hB3 : B ≤ w3.heap.size := Nat.le_trans hBi b3.size
            clear hcr hcut b3
            have HB3 := Lib.hid b3'; clear b3'
            have HAP := Lib.hid ap; clear ap
            go_wp2_with (first
              | (refine wpList_push rfl _ _ _ rfl tI rfl rfl osh (ys := [.int .i64 (j : Int)]) rfl (by simp [Value.oneCell']) HM1.out.2.2.1 HM1.out.2.2.2.1 hB3 ?_; intro a4 c4 w4 o4 g4 n4; have or4 := (or3.apart g4 HAP.out osh.shape); have or4r := or4.rd; have b4 := Own.grown HB3.out osh g4 hB3 (Nat.le_refl _); have hB4 : B ≤ w4.heap.size := Nat.le_trans hB3 g4.size; clear or4 or3; have HB4 := Lib.hid b4; clear b4)
              | (refine wpList_app rfl _ _ _ rfl tI rfl rfl o4 or4r HM1.out.2.2.2.2.1 HM1.out.2.2.2.2.2 hB4 ?_; intro a5 c5 w5 o5 g5 n5; have b5 := Own.grown HB4.out o4 g5 hB4 (Nat.le_refl _)))
            have hB5 : B ≤ w5.heap.size := Nat.le_trans hB4 g5.size
            go_roundg (n - (j + 1))
            case measure => omega
            case rel =>
              have e : k + 1 + (j - k) = j + 1 := by omega
              rw [e] at o5
              refine ⟨j + 1, o.take k ++ j :: o.drop k, a5, c5, by omega, rfl, by rw [e], by simp, b5, ?_, HPT⟩
              have e2 : N64 (o.take k) ++ [Value.int .i64 (j : Int)] ++ N64 (o.drop k) = N64 (o.take k ++ j :: o.drop k) := by simp [N64]
              rw [← e2]; exact o5
        · have hz := hkl
          have hBi : B ≤ wi.heap.size := by have := hbi.size; rw [HB.out] at this; exact this
          have hla := oi.rd.lenN
          have HLA := Lib.hid hla; clear hla
          have hpart := hP.out.put (by rw [HL.out]; exact hlt) k hk hq.out (fun h => absurd h hkl)
          have HPT := Lib.hid hpart; clear hpart
          have hcut := fun W => run_cut (P := Try.prog) Try.underlying34 sizeI oi.rd k hk W
          have hcr := oi.rd.cutN k hk
          have hkc : (k : Int) ≤ (c : Int) := by have := oi.rd.ncap; omega
          have HM1 : Hid (j - k ≤ maxLen ∧ (j - k) * 8 ≤ 140737488355328 ∧ k + 1 ≤ maxLen ∧ (k + 1) * 8 ≤ 140737488355328 ∧ k + 1 + (j - k) ≤ maxLen ∧ (k + 1 + (j - k)) * 8 ≤ 140737488355328) := Lib.hid (by unfold maxLen; omega)
          go_upto_region 15 with fail
          go_upto_region 16 with (refine wpList_clone rfl _ _ _ rfl tI rfl rfl hcr HM1.out.1 HM1.out.2.1 ?_; intro ar cr w3 or3 b3 s3; have S3 := Lib.hid s3; clear s3)
          have ap : Apart a ar := fun g h1 h2 => by
            have := (oi.blk h1).2
            have := (or3.blk h2).1
            omega
          have osh := (oi.below b3).short k hk
          have b3' := hbi.trans (b3.mono hBi)
          have hB3 : B ≤ w3.heap.size := Nat.le_trans hBi b3.size
          clear hcr hcut b3
          have HB3 := Lib.hid b3'; clear b3'
          have HAP := Lib.hid ap; clear ap
          go_wp2_with (first
            | (refine wpList_push rfl _ _ _ rfl tI rfl rfl osh (ys := [.int .i64 (j : Int)]) rfl (by simp [Value.oneCell']) HM1.out.2.2.1 HM1.out.2.2.2.1 hB3 ?_; intro a4 c4 w4 o4 g4 n4; have or4 := (or3.apart g4 HAP.out osh.shape); have or4r := or4.rd; have b4 := Own.grown HB3.out osh g4 hB3 (Nat.le_refl _); have hB4 : B ≤ w4.heap.size := Nat.le_trans hB3 g4.size; clear or4 or3; have HB4 := Lib.hid b4; clear b4)
            | (refine wpList_app rfl _ _ _ rfl tI rfl rfl o4 or4r HM1.out.2.2.2.2.1 HM1.out.2.2.2.2.2 hB4 ?_; intro a5 c5 w5 o5 g5 n5; have b5 := Own.grown HB4.out o4 g5 hB4 (Nat.le_refl _)))
          have hB5 : B ≤ w5.heap.size := Nat.le_trans hB4 g5.size
          go_roundg (n - (j + 1))
          case measure => omega
          case rel =>
            have e : k + 1 + (j - k) = j + 1 := by omega
            rw [e] at o5
            refine ⟨j + 1, o.take k ++ j :: o.drop k, a5, c5, by omega, rfl, by rw [e], by simp, b5, ?_, HPT⟩
            have e2 : N64 (o.take k) ++ [Value.int .i64 (j : Int)] ++ N64 (o.drop k) = N64 (o.take k ++ j :: o.drop k) := by simp [N64]
            rw [← e2]; exact o5
    · obtain rfl : n = j := by omega
      have hbw : Below w.heap.size w wr := by rw [HB.out]; exact hbr
      have hord : Ordered b true o := Part.all (by rw [HL.out]; exact hP.out)
      have HO := Lib.hid hord; clear hord
      go_wp2_with fail
      go_ret
      exact ⟨a, c, o, rfl, by rw [HB.out]; exact oa, HO.out, hbw⟩
end Go.Proofs.Ytjjdckbdjmbndaa
