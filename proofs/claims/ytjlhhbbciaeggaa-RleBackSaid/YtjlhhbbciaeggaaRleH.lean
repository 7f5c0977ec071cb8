/- The document's Packed, Pack: the walks. -/
import Derived.Test.YtjlhhbbciaeggaaRleG
namespace Go.Proofs.Ytjlhhbbciaeggaa
set_option linter.unusedSimpArgs false
set_option linter.unusedVariables false
open Go.RowKit

theorem two_own (w : World) (t : TypeId) (a b : Value) (ha : a.oneCell' = true) (hb : b.oneCell' = true) : Own (w.alloc (.cells #[a, b] t)) t 1 w.heap.size (some ⟨w.heap.size, 0, none⟩) 2 2 [a, b] :=
  ⟨⟨rfl, .inr ⟨w.heap.size, 2, #[a, b], rfl, Nat.le_refl _, heap_alloc_new w _, Nat.le_refl _, by decide, rfl, rfl⟩⟩, fun u hu => by simp at hu; rcases hu with rfl | rfl <;> assumption⟩

set_option maxRecDepth 100000 in
set_option maxHeartbeats 4000000 in
theorem refPacked_law (w : World) (x : UInt8) (k : Nat) (hk : k ≤ 255) :
    Calls Try.prog 17 #[.agg #[.int .u8 (x.toNat : Int), .int .i64 (k : Int)]] w fun e w' => ∃ a c, e = .returned (.slice a (pkd (x, k)).length c) ∧ Own w' 5 1 w.heap.size a (pkd (x, k)).length c (B8 (pkd (x, k))) ∧ Below w.heap.size w w' := by
  obtain ⟨M, hM⟩ : ∃ M, w.heap.size = M := ⟨_, rfl⟩
  have n0 := two_own w 45 (.int .u8 (x.toNat : Int)) (.int .i64 (k : Int)) rfl rfl
  have b0 : Below M w (w.alloc (.cells #[.int .u8 (x.toNat : Int), .int .i64 (k : Int)] 45)) := by rw [← hM]; exact (Below.refl _ w).alloc (Nat.le_refl _) _
  rw [hM] at n0
  rw [hM]
  have hs1 : M + 1 ≤ (w.alloc (.cells #[.int .u8 (x.toNat : Int), .int .i64 (k : Int)] 45)).heap.size := by simp [hM]
  go_enter Try.func17, Try.ntmps17
  go_wp2_with fail
  generalize w.alloc (.cells #[.int .u8 (x.toNat : Int), .int .i64 (k : Int)] 45) = wz at *
  go_loopg [3, 4] 4 (fun gk o i wr => ∃ j : Nat, j ≤ min k 4 ∧ gk = 4 - j ∧ i = .int .i64 (j : Int) ∧ Below M w wr ∧ M + 1 ≤ wr.heap.size ∧ Own wr 45 1 M (some ⟨M, 0, none⟩) 2 2 [.int .u8 (x.toNat : Int), .int .i64 (k : Int)] ∧ ∃ a c, o = .slice a j c ∧ Own wr 5 1 (M + 1) a j c (B8 (List.replicate j x)))
  case atStart => exact ⟨0, Nat.zero_le _, by simp, rfl, b0, hs1, n0, none, 0, rfl, Own.nil _ _ _ _⟩
  case round =>
    clear b0 n0 hs1
    obtain ⟨j, hj, rfl, rfl, b0, hs1, n0, a, c, rfl, oo⟩ := hrel
    rename World => wr
    have c0 := (Own.read n0 (j := 0) rfl).1
    have c1 := (Own.read n0 (j := 1) rfl).1
    have H1 : Hid (j + 1 ≤ maxLen) := Lib.hid (by unfold maxLen; omega)
    have H2 : Hid ((j + 1) * 1 ≤ 140737488355328) := Lib.hid (by omega)
    have hs0 : M ≤ wr.heap.size := by omega
    by_cases hlt : j < min k 4
    · have hk1 : (j : Int) < (k : Int) := by omega
      have hk4 : (j : Int) < 4 := by omega
      go_wp2_with (refine wpList_push rfl _ _ _ rfl elB rfl rfl oo (ys := [.int .u8 (x.toNat : Int)]) rfl (by simp [Value.oneCell']) H1.out H2.out hs1 ?_; intro a' c' w1 o1 r1 _)
      go_roundg (4 - (j + 1))
      case measure => omega
      case rel => exact ⟨j + 1, by omega, rfl, by simp, Own.grown b0 oo r1 hs0 (by omega), Nat.le_trans hs1 r1.size, n0.other r1 (fun g hg e => by
        cases hg
        cases ha : a with
        | none => rw [ha] at e; cases e
        | some y =>
          have := oo.shape y ha
          have := (oo.blk (g := y.block) (by rw [ha, ← this])).1
          rw [ha] at e; simp [bOf] at e; omega), a', c', rfl, by rw [List.replicate_succ', ← B8_app]; exact o1⟩
    · have hnj : j = min k 4 := by omega
      have hor : ¬ ((j : Int) < (k : Int)) ∨ ¬ ((j : Int) < 4) := by omega
      by_cases h4 : 4 ≤ k
      · have hj4 : j = 4 := by omega
        subst hj4
        have hk4 : (4 : Int) ≤ (k : Int) := by omega
        have hpk5 : pkd (x, k) = List.replicate 4 x ++ [UInt8.ofNat (k - 4)] := by rw [pkd, if_pos h4, Nat.min_eq_right h4]
        obtain ⟨q, hq⟩ : ∃ q, k - 4 = q := ⟨_, rfl⟩
        have eq1 : (k : Int) - 4 = (q : Int) := by omega
        have wq1 : IntKind.i64.wrap (q : Int) = (q : Int) := IntWalk.i64_in _ (by omega)
        have wq2 : IntKind.u8.wrap (q : Int) = (q : Int) := by simp [IntKind.wrap, IntKind.bits, IntKind.signed]; omega
        rw [hq] at hpk5
        have hbq : B8 [UInt8.ofNat q] = [.int .u8 (q : Int)] := by simp [B8, UInt8.toNat_ofNat']; omega
        have HPK := Lib.hid hpk5; clear hpk5
        have HBQ := Lib.hid hbq; clear hbq hq hnj hor hlt hj
        go_wp2_with (refine wpList_push rfl _ _ _ rfl elB rfl rfl oo (ys := [.int .u8 (q : Int)]) rfl (by simp [Value.oneCell']) H1.out H2.out hs1 ?_; intro a' c' w1 o1 r1 _)
        all_goals (go_ret; exact ⟨a', c', by rw [HPK.out]; rfl, by rw [HPK.out, ← B8_app, HBQ.out]; exact o1.lower (by omega), Own.grown b0 oo r1 hs0 (by omega)⟩)
      · have hj4 : j = k := by omega
        subst hj4
        have hk4 : ¬ (4 : Int) ≤ (j : Int) := by omega
        have hpk5 : pkd (x, j) = List.replicate j x := by rw [pkd, if_neg h4, Nat.min_eq_left (by omega), List.append_nil]
        have HPK := Lib.hid hpk5; clear hpk5 hnj hor hlt hj
        go_wp2_with fail
        go_ret
        exact ⟨a, c, by rw [HPK.out, List.length_replicate]; rfl, by rw [HPK.out, List.length_replicate]; exact oo.lower (by omega), b0⟩

set_option maxRecDepth 100000 in
set_option maxHeartbeats 4000000 in
theorem refPack_law (w : World) (ad : Option Addr) (n cap : Nat) (b : List UInt8) (hb : Rd w 1 ad n cap (B8 b)) (hn : n ≤ 100000) (room : Int) :
    Calls Try.prog 9 #[.slice ad n cap, .int .i64 room] w (PackPost w b room) := by
  have hl := hb.len8
  have HL := Lib.hid hl; clear hl
  obtain ⟨B, hB⟩ : ∃ B, w.heap.size = B := ⟨_, rfl⟩
  by_cases hlo : room < 5
  · go_enter Try.func9, Try.ntmps9
    go_wp2_with fail
    refine bodyPost_ret (results_tmp3 rfl _ _ _) rfl ?_
    exact ⟨Below.refl _ _, .inl ⟨hlo, rfl⟩⟩
  · obtain ⟨rm, rfl⟩ : ∃ rm : Nat, room = (rm : Int) := ⟨room.toNat, by omega⟩
    have hrm : 5 ≤ rm := by omega
    have hplen := pcs_len b
    rw [HL.out] at hplen
    have hsmall := pcs_small b
    have HSM := Lib.hid hsmall; clear hsmall
    obtain ⟨l, hll⟩ : ∃ l, (pcs b).length = l := ⟨_, rfl⟩
    rw [hll] at hplen
    go_enter Try.func9, Try.ntmps9
    go_wp2_with fail
    refine (refPieces_law w ad n cap b hb hn).mono ?_
    rintro e w2 ⟨p1, p2, rfl, op, b2⟩
    rw [hB] at op b2
    rw [hll] at op ⊢
    go_wp2_with fail
    go_loopg [7, 8, 10] l (fun gk o us i wr => ∃ j : Nat, j ≤ l ∧ gk = l - j ∧ i = .int .i64 (j : Int) ∧ us = .int .i64 (offP b j : Int) ∧ Below B w wr ∧ Own wr 45 2 B p1 l p2 (PC (pcs b)) ∧ (pkO b j).length ≤ rm ∧ ∃ a c, o = .slice a (pkO b j).length c ∧ Own wr 5 1 B a (pkO b j).length c (B8 (pkO b j)) ∧ Apart a p1)
    case atStart => exact ⟨0, Nat.zero_le _, by simp, rfl, by rw [offP_zero]; rfl, b2, op, by rw [pkO_zero]; exact Nat.zero_le _, none, 0, by rw [pkO_zero]; rfl, by rw [pkO_zero]; exact Own.nil _ _ _ _, Apart.none_left _⟩
    case round =>
      clear op b2
      obtain ⟨j, hj, rfl, rfl, rfl, b2, op, hfit, a, c, rfl, oo, hap⟩ := hrel
      rename World => wr
      have hol := offP_le b j
      rw [HL.out] at hol
      have hpl := pkO_le b j
      rw [HL.out] at hpl
      have hBr : B ≤ wr.heap.size := by have := b2.size; omega
      by_cases hlt : j < l
      · have hjl : j < (pcs b).length := by rw [hll]; exact hlt
        obtain ⟨g1, g2⟩ := pcs_get b j hjl
        have hsuc := pkO_succ b j hjl
        have hos := offP_succ b j hjl
        obtain ⟨k, hk⟩ : ∃ k, runN (b.drop (offP b j)) = k := ⟨_, rfl⟩
        obtain ⟨x, hx⟩ : ∃ x, at8 b (offP b j) = x := ⟨_, rfl⟩
        rw [hk, hx] at g2 hsuc
        rw [hk] at hos
        have hk255 : k ≤ 255 := (HSM.out _ (List.mem_of_getElem? g2)).2
        obtain ⟨q1, q2⟩ := PC_at _ _ _ g2
        have HG2 := Lib.hid g2
        obtain ⟨g, rfl⟩ : ∃ g, p1 = some ⟨g, 0, none⟩ := by
          obtain ⟨_, hc⟩ := op.cases
          rcases hc with ⟨_, h, _⟩ | ⟨g, _, h, _⟩
          · omega
          · exact ⟨g, h⟩
        have c1 := (op.readZ q1).1
        have c2 := (op.readZ q2).1
        obtain ⟨m, hm⟩ : ∃ m, (pkO b j).length = m := ⟨_, rfl⟩
        obtain ⟨off, hoff⟩ : ∃ off, offP b j = off := ⟨_, rfl⟩
        rw [hm] at oo hfit hpl ⊢
        rw [hoff] at hos hol ⊢
        have HM := Lib.hid hm; clear hm
        have HOFF := Lib.hid hoff; clear hoff
        have HSUC := Lib.hid hsuc; clear hsuc
        have HOS := Lib.hid hos; clear hos
        have hjn : (j : Int) < (l : Int) := by omega
        have hcal := refPacked_law wr x k hk255
        have HCAL := Lib.hid hcal; clear hcal
        have hpkl : (pkd (x, k)).length ≤ 5 := by rw [pkd_len]; split <;> omega
        obtain ⟨y, hy⟩ : ∃ y, (pkd (x, k)).length = y := ⟨_, rfl⟩
        rw [hy] at HCAL hpkl
        have HY := Lib.hid hy; clear hy
        obtain ⟨of2, hof2⟩ : ∃ of2, off + k = of2 := ⟨_, rfl⟩
        have eo : (off : Int) + (k : Int) = (of2 : Int) := by omega
        have wo : IntKind.i64.wrap (of2 : Int) = (of2 : Int) := IntWalk.i64_in _ (by omega)
        rw [hof2] at HOS
        have HOF2 := Lib.hid hof2; clear hof2
        obtain ⟨my, hmy⟩ : ∃ my, m + y = my := ⟨_, rfl⟩
        have em : (m : Int) + (y : Int) = (my : Int) := by omega
        have wm : IntKind.i64.wrap (my : Int) = (my : Int) := IntWalk.i64_in _ (by omega)
        clear g1 g2 q1 q2 hk hx
        go_wp2_with fail
        refine HCAL.out.mono ?_
        rintro e w3 ⟨a3, k3, rfl, o3, b3⟩
        have oo3 := oo.below b3
        have op3 := op.below b3
        have b23 := b2.trans (b3.mono hBr)
        have hB3 : B ≤ w3.heap.size := by have := b3.size; omega
        clear oo op c1 c2 b2 b3
        by_cases hroom : rm < my
        · have hst : Stop b rm j := ⟨by omega, by rw [HM.out]; exact hfit, fun _ => by rw [HSUC.out, List.length_append, HM.out, HY.out]; omega⟩
          have HST := Lib.hid hst; clear hst
          have hri : (rm : Int) < (my : Int) := by omega
          go_wp2_with fail
          refine bodyPost_ret (results_tmp3 rfl _ _ _) rfl ?_
          refine ⟨by rw [hB]; exact b23, .inr ⟨hlo, j, a, c, by rw [Int.toNat_natCast]; exact HST.out, by rw [HM.out, HOFF.out]; rfl, by rw [HM.out, hB]; exact oo3⟩⟩
        · have hri : ¬ (rm : Int) < (my : Int) := by omega
          have H1 : Hid (m + y ≤ maxLen) := Lib.hid (by unfold maxLen; omega)
          have H2 : Hid ((m + y) * 1 ≤ 140737488355328) := Lib.hid (by omega)
          have HMY := Lib.hid hmy; clear hmy
          have q1' := (op3.readZ (show _ from (PC_at _ _ _ (HG2.out)).2)).1
          have r3 := o3.rd
          go_wp2_with (refine wpList_app rfl _ _ _ rfl elB rfl rfl oo3 r3 H1.out H2.out hB3 ?_; intro a4 c4 w4 o4 g4 n4; have op4 := op3.apart g4 hap oo3.shape; have c44 := (op4.readZ (show _ from (PC_at _ _ _ (HG2.out)).2)).1)
          go_roundg (l - (j + 1))
          case measure => omega
          case rel => exact ⟨j + 1, by omega, rfl, by simp, by rw [HOS.out], Own.grown b23 oo3 g4 hB3 (Nat.le_refl _), op4, by rw [HSUC.out, List.length_append, HM.out, HY.out, HMY.out]; omega, a4, c4, by rw [HSUC.out, List.length_append, HM.out, HY.out], by rw [HSUC.out, List.length_append, HM.out, HY.out, ← B8_app]; exact o4, hap.grow op3 n4⟩
      · obtain rfl : j = l := by omega
        have hst : Stop b rm j := by rw [← hll]; exact Stop.all (by rw [hll]; exact hfit)
        have HST := Lib.hid hst; clear hst
        clear hap op
        go_wp2_with fail
        refine bodyPost_ret (results_tmp3 rfl _ _ _) rfl ?_
        refine ⟨by rw [hB]; exact b2, .inr ⟨hlo, j, a, c, by rw [Int.toNat_natCast]; exact HST.out, rfl, by rw [hB]; exact oo⟩⟩
end Go.Proofs.Ytjlhhbbciaeggaa
