/- TokenRepeats. -/
import Derived.Test.YtlmpooibpopcaaaTokJ
import Derived.Test.YtlmpooibpopcaaaAppOld
namespace Go.Proofs.Ytlmpooibpopcaaa
set_option linter.unusedSimpArgs false
set_option linter.unusedVariables false
open Go.RowKit Go.Shelf
attribute [local go_sem] Oper.semAt_some

theorem tT : ElTy Try.prog 22 28 (.agg #[.int .i64 0, .int .i64 0, .int .u8 0]) 3 24 := ⟨Try.underlying22, info_parts (by kernel_rfl), rfl, by decide⟩
def litT (b : UInt8) : Tok := ⟨0, 0, b⟩
theorem T3_snoc (ts : List Tok) (t : Tok) : T3 ts ++ [.int .i64 t.len, .int .i64 t.dist, .int .u8 (t.byte.toNat : Int)] = T3 (ts ++ [t]) := by simp [T3, tokC]
theorem expT_lits (bs : List UInt8) (ts : List Tok) : ∀ o, expT o (bs.map litT ++ ts) = expT (o ++ bs) ts := by
  induction bs with
  | nil => intro o; simp
  | cons b bs ih =>
    intro o
    rw [List.map_cons, List.cons_append, expT, if_pos (show (litT b).len = 0 from rfl), ih]
    simp [litT]
theorem may_lits (bs : List UInt8) (t : Tok) (h : mayB t = true) : (bs.map litT ++ [t]).any (fun t => !mayB t) = false := by
  rw [List.any_eq_false]
  intro u hu
  rcases List.mem_append.1 hu with h1 | h1
  · obtain ⟨b, _, rfl⟩ := List.mem_map.1 h1
    simp [mayB, litT]
  · simp at h1; subst h1; rw [h]; simp
theorem rep_expand (bs : List UInt8) (S F : Nat) (h1 : 3 ≤ S) (h2 : S ≤ 258) (h3 : 1 ≤ F) (h4 : F ≤ bs.length) (h5 : F ≤ 32768) : expand (bs.map litT ++ [⟨(S : Int), (F : Int), 0⟩]) = (repN F S bs, 0) := by
  have hm : mayB ⟨(S : Int), (F : Int), 0⟩ = true := by rw [mayB, if_neg (by simp; omega)]; simp; omega
  rw [expand, may_lits _ _ hm, if_neg (by decide), expT_lits, List.nil_append, expT, if_neg (by simp; omega), if_neg (by simp; omega), expT]
  simp
theorem rep_fail (bs : List UInt8) (S F : Nat) (h1 : 3 ≤ S) (h2 : S ≤ 258) (h4 : bs.length < F) (h5 : F ≤ 32768) : expand (bs.map litT ++ [⟨(S : Int), (F : Int), 0⟩]) = ([], 2) := by
  have hm : mayB ⟨(S : Int), (F : Int), 0⟩ = true := by rw [mayB, if_neg (by simp; omega)]; simp; omega
  rw [expand, may_lits _ _ hm, if_neg (by decide), expT_lits, List.nil_append, expT, if_neg (by simp; omega), if_pos (by simp; omega)]
theorem repN_take (d k : Nat) (o : List UInt8) : (repN d k o).take o.length = o := by
  induction k with
  | zero => exact List.take_length
  | succ k ih => rw [repN, rep1, List.take_append_of_le_length (by rw [repN_len]; omega), ih]
theorem at8_app (xs ys : List UInt8) (i : Nat) (h : i < xs.length) : at8 (xs ++ ys) i = at8 xs i := by simp [at8, List.getElem?_append_left h]
theorem repN_back (d k : Nat) (o : List UInt8) (hd : 1 ≤ d) (hd2 : d ≤ o.length) : ∀ i, o.length ≤ i → i < o.length + k → at8 (repN d k o) i = at8 (repN d k o) (i - d) := by
  induction k with
  | zero => intro i h1 h2; omega
  | succ k ih =>
    intro i h1 h2
    have hl := repN_len d k o
    rw [repN, rep1]
    by_cases h : i < o.length + k
    · rw [at8_app _ _ _ (by omega), at8_app _ _ _ (by omega)]; exact ih i h1 h
    · obtain rfl : i = o.length + k := by omega
      rw [at8_app _ _ (o.length + k - d) (by omega)]
      simp [at8, hl]

set_option maxRecDepth 100000 in
set_option maxHeartbeats 4000000 in
theorem tokenRepeats_law (w : World) (ad : Option Addr) (n cap : Nat) (b : List UInt8) (hb : Rd w 1 ad n cap (B8 b)) (s d : Nat) (hs : s < 65536) (hd : d < 65536) :
    Calls Try.prog 4 #[.slice ad n cap, .int .u16 (s : Int), .int .u16 (d : Int)] w fun e w' => e = .returned (.bool true) ∧ Below w.heap.size w w' := by
  go_enter Try.func4, Try.ntmps4
  by_cases hn : 300 < n ∨ n = 0
  · by_cases h1 : 300 < n
    · clear hn
      go_wp2_with fail
      refine (says_any w).mono ?_
      rintro e w1 ⟨rfl, b1⟩
      go_wp2_with fail
      go_ret
      exact ⟨rfl, b1⟩
    · obtain rfl : n = 0 := by omega
      clear hn
      go_wp2_with fail
      refine (says_any w).mono ?_
      rintro e w1 ⟨rfl, b1⟩
      go_wp2_with fail
      go_ret
      exact ⟨rfl, b1⟩
  · have h1 : ¬ 300 < n := by omega
    have h0 : 0 < n := by omega
    have hnz : ((n : Int) == 0) = false := beq_false_of_ne (by omega)
    clear hn
    have hl := hb.len8
    obtain ⟨S, hS⟩ : ∃ S, 3 + s % 256 = S := ⟨_, rfl⟩
    have hS1 : 3 ≤ S := by omega
    have hS2 : S ≤ 258 := by omega
    obtain ⟨F, hF⟩ : ∃ F, 1 + d % n = F := ⟨_, rfl⟩
    have hF0 : d % n < n := Nat.mod_lt _ h0
    have hF1 : 1 ≤ F := by omega
    have hF2 : F ≤ n := by omega
    have r1 := rep_expand b S F hS1 hS2 hF1 (by omega) (by omega)
    have r2 := rep_fail b S (n + 1) hS1 hS2 (by omega) (by omega)
    have r3 := repN_take F S b
    rw [hl] at r3
    have r4 := repN_back F S b hF1 (by omega)
    rw [hl] at r4
    have r5 := repN_len F S b
    rw [hl] at r5
    have R1 := Lib.hid r1; clear r1
    have R2 := Lib.hid r2; clear r2
    have R3 := Lib.hid r3; clear r3
    have R4 := Lib.hid r4; clear r4
    have R5 := Lib.hid r5; clear r5
    have HL := Lib.hid hl; clear hl
    have E1 : (3 : Int) + (s : Int) % 256 = (S : Int) := by omega
    have E2 : (1 : Int) + (d : Int) % (n : Int) = (F : Int) := by omega
    clear hF0 hF hS
    go_wp2_with fail
    go_loopg [9, 10] n (fun k l i wr => ∃ (j : Nat) (a : Option Addr) (c : Nat), j ≤ n ∧ k = n - j ∧ i = .int .i64 j ∧ l = .slice a j c ∧ Own wr 28 3 w.heap.size a j c (T3 ((b.take j).map litT)) ∧ Below w.heap.size w wr)
    case atStart => exact ⟨0, none, 0, Nat.zero_le _, by simp, rfl, rfl, Own.nil _ _ _ _, Below.refl _ _⟩
    case round =>
      obtain ⟨j, a, c, hj, rfl, rfl, rfl, ho, hbw⟩ := hrel
      rename World => wr
      by_cases hlt : j < n
      · obtain ⟨nx, cx⟩ := (hb.below hbw).get8 hlt
        have hst : T3 ((b.take j).map litT) ++ [.int .i64 0, .int .i64 0, .int .u8 ((at8 b j).toNat : Int)] = T3 ((b.take (j + 1)).map litT) := by
          rw [List.take_add_one, List.map_append, show (b[j]?.toList.map litT) = [litT (at8 b j)] by simp [at8, HL.out, hlt], ← T3_snoc]
          rfl
        generalize at8 b j = v at *
        have HST := Lib.hid hst; clear hst
        go_wp2_with (refine wpList_push rfl _ _ _ rfl tT rfl rfl ho (ys := [.int .i64 0, .int .i64 0, .int .u8 (v.toNat : Int)]) rfl (by simp [Value.oneCell']) (by unfold maxLen; omega) (by omega) hbw.size ?_; intro a4 c4 w4 o4 g4 n4)
        rw [HST.out] at o4
        go_roundg (n - (j + 1))
        case measure => omega
        case rel => exact ⟨j + 1, a4, c4, hlt, rfl, by simp, rfl, o4, Own.grown hbw ho g4 hbw.size (Nat.le_refl _)⟩
      · obtain rfl : j = n := by omega
        have hall : (b.take j).map litT = b.map litT := by rw [List.take_of_length_le (by rw [HL.out]; exact Nat.le_refl _)]
        rw [hall] at ho
        clear hall hlt hj E1 E2
        have hlb : (b.map litT).length = j := by rw [List.length_map, HL.out]
        have HLB := Lib.hid hlb; clear hlb
        go_upto_region 10 with fail
        go_wp2_with (refine wpList_push2 rfl _ _ _ rfl tT rfl rfl ho (ys := [.int .i64 (S : Int), .int .i64 (F : Int), .int .u8 0]) rfl (by simp [Value.oneCell']) (by unfold maxLen; omega) (by omega) hbw.size ?_; intro a4 c4 w4 o4 p4 g4)
        have hb4 : Below w.heap.size w w4 := Own.grown hbw ho g4 hbw.size (Nat.le_refl _)
        rw [show T3 (b.map litT) ++ [.int .i64 (S : Int), .int .i64 (F : Int), .int .u8 0] = T3 (b.map litT ++ [⟨(S : Int), (F : Int), 0⟩]) from T3_snoc _ ⟨(S : Int), (F : Int), 0⟩] at o4
        refine (expand_law w4 a4 (j + 1) c4 _ o4.rd (by omega)).mono ?_
        intro e w5 h5
        unfold ExpPost at h5
        rw [R1.out] at h5
        obtain ⟨a5, c5, rfl, o5, b5⟩ := h5
        dsimp only at o5 b5 ⊢
        rw [R5.out] at o5 ⊢
        have hb5 := hb4.trans (b5.mono hb4.size)
        have p5 := p4.below b5
        clear p4 o4 hb4 b5 g4 ho
        have x5 := o5.rd
        have hbr := hb.below hb5
        have s1 : ∀ k, (convert 23 9 (.slice a5 j c5)).run Try.prog (w5.drewN k) = .ok (.string (bstr b)) (w5.drewN k) := fun k => by
          have := rstr (rdDraws (x5.to8 j (by omega)) k)
          rwa [R3.out] at this
        have s2 : ∀ k, (convert 23 9 (.slice ad j cap)).run Try.prog (w5.drewN k) = .ok (.string (bstr b)) (w5.drewN k) := fun k => rstr (rdDraws hbr k)
        have hcap := x5.ncap
        have hcap2 := x5.capM
        have hjc : (j : Int) ≤ (c5 : Int) := by omega
        go_wp2_with fail
        (try simp only [List.append])
        refine wp_region_quiet_lit (by kernel_rfl) (by kernel_rfl) ?_
        repeat (go_big_quiet_step (fail))
        refine wpQuiet_nil ?_
        intro _ hw'
        obtain ⟨nq, hw''⟩ := hw'
        subst hw''
        go_wp2_with fail
        clear s1 s2
        have b6 : Below w5.heap.size w5 (w5.drewN nq) := bDraws (Below.refl _ _) nq
        go_loopg [13] S (fun k i wq => ∃ (p : Nat), j ≤ p + F ∧ p + F ≤ j + S ∧ k = j + S - (p + F) ∧ i = .int .i64 ((p + F : Nat) : Int) ∧ Below w5.heap.size w5 wq)
        case atStart => exact ⟨j - F, by omega, by omega, by omega, by rw [Nat.sub_add_cancel hF2], b6⟩
        case round =>
          clear b6
          obtain ⟨p, hp1, hp2, rfl, rfl, b6⟩ := hrel
          rename World => wq
          by_cases hlt : p + F < j + S
          · obtain ⟨ne, k1⟩ := (x5.below b6).get8 hlt
            obtain ⟨_, k2⟩ := (x5.below b6).get8 (k := p) (by omega)
            rw [R4.out _ hp1 hlt, Nat.add_sub_cancel] at k1
            generalize at8 (repN F S b) p = v at *
            have hi1 : (p : Int) + (F : Int) < (j : Int) + (S : Int) := by omega
            have hi2 : (p : Int) < (j : Int) + (S : Int) := by omega
            have hi3 : (0 : Int) ≤ (p : Int) := by omega
            have hi4 : (0 : Int) ≤ (p : Int) + (F : Int) := by omega
            have hk := Below.size b6
            go_wp2_with fail
            (try simp only [List.append])
            refine wp_region_quiet_lit (by kernel_rfl) (by kernel_rfl) ?_
            repeat (go_big_quiet_step (fail))
            refine wpQuiet_nil ?_
            intro _ hw'
            obtain ⟨nq, hw''⟩ := hw'
            subst hw''
            go_wp2_with fail
            go_roundg (j + S - (p + 1 + F))
            case measure => omega
            case rel => exact ⟨p + 1, by omega, by omega, rfl, by simp; omega, bDraws b6 nq⟩
          · have hnl : ¬ ((p : Int) + (F : Int) < (j : Int) + (S : Int)) := by omega
            have p6 := p5.below b6
            have hb6 := hb5.trans (b6.mono hb5.size)
            have hsz6 := hb6.size
            clear p5 hb5 b6 o5 x5 hbr
            go_wp2_with (refine wpList_push2 rfl _ _ _ rfl tT rfl rfl p6 (ys := [.int .i64 (S : Int), .int .i64 ((j : Int) + 1), .int .u8 0]) rfl (by simp [Value.oneCell']) (by unfold maxLen; omega) (by omega) hsz6 ?_; intro a7 c7 w7 o7 p7 g7)
            have hb7 : Below w.heap.size w w7 := Own.grown hb6 p6 g7 hsz6 (Nat.le_refl _)
            rw [show T3 (b.map litT) ++ [.int .i64 (S : Int), .int .i64 ((j : Int) + 1), .int .u8 0] = T3 (b.map litT ++ [⟨(S : Int), ((j + 1 : Nat) : Int), 0⟩]) from T3_snoc _ ⟨(S : Int), ((j + 1 : Nat) : Int), 0⟩] at o7
            refine (expand_law w7 a7 (j + 1) c7 _ o7.rd (by omega)).mono ?_
            intro e w8 h8
            unfold ExpPost at h8
            rw [R2.out] at h8
            obtain ⟨a8, c8, rfl, o8, b8⟩ := h8
            have hb8 := hb7.trans (b8.mono hb7.size)
            clear o8 o7 p7 g7 b8 hb7 hb6 p6
            go_wp2_with fail
            refine (says_any w8).mono ?_
            rintro e w9 ⟨rfl, b9⟩
            go_wp2_with fail
            go_ret
            exact ⟨rfl, hb8.trans (b9.mono hb8.size)⟩
end Go.Proofs.Ytlmpooibpopcaaa
