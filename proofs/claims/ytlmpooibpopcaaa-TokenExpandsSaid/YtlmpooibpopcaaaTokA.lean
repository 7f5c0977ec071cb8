/- token.scale: the iterator. -/
import Derived.Test.YtlmpooibpopcaaaRegL
import Derived.Test.YtlmpooibpopcaaaNat
import Derived.Test.YtlmpooibpopcaaaRows
namespace Go.Proofs.Ytlmpooibpopcaaa
set_option linter.unusedSimpArgs false
set_option linter.unusedVariables false
open Go.RowKit Go.Shelf
attribute [local go_sem] Oper.semAt_some

theorem tI : ElTy Try.prog 37 3 (.int .i64 0) 1 8 := ⟨Try.underlying37, info_parts (by kernel_rfl), rfl, by decide⟩
def bitsK (none each k : Nat) : Nat := if none ≤ k then 1 + (k - none) / each else 0
def leastK (none each l0 : Nat) : Nat → Nat
  | 0 => l0
  | k + 1 => leastK none each l0 k + 2 ^ bitsK none each k
/-- one element -/
def scE (none each l0 k : Nat) : Array Value := #[.int .i64 ((leastK none each l0 k : Nat) : Int), .int .i64 ((bitsK none each k : Nat) : Int)]

set_option maxRecDepth 100000 in
set_option maxHeartbeats 2000000 in
theorem scale1_in (m l B n none each l0 : Nat) (hm : 1 ≤ m) (hn : n ≤ 1000) (hno : none ≤ 1000) (he0 : 0 < each) (he1 : each ≤ 1000) (hbd : ∀ k, k ≤ n → leastK none each l0 k ≤ 1000000 ∧ bitsK none each k ≤ 40 ∧ 2 ^ bitsK none each k ≤ 1000000000) (J Jx : Nat → World → Prop) (hJ : AbW (fun r => r = B + 3) J)
    (hY : ∀ k W1, J k W1 → k < n → YieldAt Fence.wide (m - 1) Try.prog l (scE none each l0 k) W1 fun e W' =>
      (e = .returned (.bool true) ∧ J (k + 1) W' ∧ KeepB (fun r => B ≤ r ∧ r < B + 4) W1 W') ∨ (e = .returned (.bool false) ∧ Jx (k + 1) W'))
    (W : World) (h1 : Boxed W B 3 (.int .i64 (n : Int))) (h2 : Boxed W (B + 1) 3 (.int .i64 (none : Int))) (h3 : Boxed W (B + 2) 3 (.int .i64 (each : Int))) (h4 : Boxed W (B + 3) 3 (.int .i64 (l0 : Int))) (h0 : J 0 W) :
    CallsIn Fence.wide m Try.prog 31 #[.func (.yield l) #[] #[], .pointer (some ⟨B, 0, .none⟩), .pointer (some ⟨B + 1, 0, .none⟩), .pointer (some ⟨B + 2, 0, .none⟩), .pointer (some ⟨B + 3, 0, .none⟩)] W fun e W' => (∃ v, e = .returned v) ∧
      (J n W' ∨ ∃ k, k ≤ n ∧ Jx k W') := by
  refine callsIn_of_wp Try.func31 rfl trivial ?_ rfl
  simp only [Try.ntmps31, List.size_toArray, List.length_cons, List.length_nil, Nat.reduceAdd, Nat.reduceSub, Array.replicate_succ, Array.replicate_zero, List.push_toArray, List.append_toArray, List.nil_append, List.cons_append]
  have cW := h1.cell
  have HB := Lib.hid hbd; clear hbd
  gi_wp2
  clear cW
  gi_loopw [9] (fun i wr => ∃ k : Nat, k ≤ n ∧ i = .int .i64 k ∧ J k wr ∧ Boxed wr B 3 (.int .i64 (n : Int)) ∧ Boxed wr (B + 1) 3 (.int .i64 (none : Int)) ∧ Boxed wr (B + 2) 3 (.int .i64 (each : Int)) ∧ Boxed wr (B + 3) 3 (.int .i64 ((leastK none each l0 k : Nat) : Int)))
    (fun i _ => n - (intOf i).toNat)
  case atStart => exact ⟨0, Nat.zero_le _, rfl, h0, h1, h2, h3, h4⟩
  case round =>
    clear h0 h1 h2 h3 h4
    obtain ⟨k, hk, rfl, hJs, h1, h2, h3, h4⟩ := hrel
    rename World => wr
    by_cases hlt : k < n
    · obtain ⟨b1, b2, b4⟩ := HB.out k hk
      have b3 := (HB.out (k + 1) (by omega)).1
      have e1 : leastK none each l0 (k + 1) = leastK none each l0 k + 2 ^ bitsK none each k := rfl
      obtain ⟨fn, tmps, assign, body, hy, hR⟩ := hY k _ hJs hlt
      dsimp only [scE] at hy
      obtain ⟨q, hq⟩ : ∃ q, bitsK none each k = q := ⟨_, rfl⟩
      obtain ⟨L, hL⟩ : ∃ L, leastK none each l0 k = L := ⟨_, rfl⟩
      obtain ⟨L1, hL1⟩ : ∃ L1, leastK none each l0 (k + 1) = L1 := ⟨_, rfl⟩
      rw [hq] at hy b2 b4 e1
      rw [hL] at hy b1 h4 e1
      rw [hL1] at e1 b3
      have hpw : (2 : Int) ^ q = ((2 ^ q : Nat) : Int) := by simp
      obtain ⟨pw, hpe⟩ : ∃ pw, 2 ^ q = pw := ⟨_, rfl⟩
      rw [hpe] at hpw e1 b4
      have HL1 := Lib.hid hL1; clear hL1
      have HL := Lib.hid hL; clear hL hpe
      have c2 := h2.cell
      have c3 := h3.cell
      have c4 := h4.cell
      have f4 := h4.frozen
      have w1 : IntKind.i64.wrap (pw : Int) = (pw : Int) := IntWalk.i64_in _ (by omega)
      have e2 : (L : Int) + (pw : Int) = (L1 : Int) := by omega
      have w2 : IntKind.i64.wrap (L1 : Int) = (L1 : Int) := IntWalk.i64_in _ (by omega)
      have hq64 : (q : Int) ≤ 64 := by omega
      have E1 := Lib.hid e1; clear e1
      clear hY
      have REST : True := trivial
      by_cases hkn : none ≤ k
      · obtain ⟨d, hd⟩ : ∃ d, k - none = d := ⟨_, rfl⟩
        have hqe : q = 1 + d / each := by rw [← hq, bitsK, if_pos hkn, hd]
        obtain ⟨dq, hdq⟩ : ∃ dq, d / each = dq := ⟨_, rfl⟩
        have t1 : (k : Int) - (none : Int) = (d : Int) := by omega
        have t2 : (d : Int).tdiv (each : Int) = (dq : Int) := by rw [← hdq]; rfl
        have t2' : (d : Int) / (each : Int) = (dq : Int) := by rw [← hdq]; rfl
        rw [hdq] at hqe
        have t3 : (1 : Int) + (dq : Int) = (q : Int) := by omega
        have t4 : ¬ each = 0 := by omega
        have w3 : IntKind.i64.wrap (d : Int) = (d : Int) := IntWalk.i64_in _ (by omega)
        have w4 : IntKind.i64.wrap (dq : Int) = (dq : Int) := IntWalk.i64_in _ (by omega)
        have w5 : IntKind.i64.wrap (q : Int) = (q : Int) := IntWalk.i64_in _ (by omega)
        have hkn2 : (none : Int) ≤ (k : Int) := by omega
        clear hq hqe hd hdq
        gi_wp2
        refine hR.mono ?_
        rintro e W3 (⟨rfl, hJ3, hk3⟩ | ⟨rfl, hJx3⟩)
        · have y1 : Boxed W3 B 3 (.int .i64 (n : Int)) := (hk3 B ⟨by omega, by omega⟩).trans h1
          have y2 : Boxed W3 (B + 1) 3 (.int .i64 (none : Int)) := (hk3 (B + 1) ⟨by omega, by omega⟩).trans h2
          have y3 : Boxed W3 (B + 2) 3 (.int .i64 (each : Int)) := (hk3 (B + 2) ⟨by omega, by omega⟩).trans h3
          have y4 : Boxed W3 (B + 3) 3 (.int .i64 (L : Int)) := (hk3 (B + 3) ⟨by omega, by omega⟩).trans h4
          have y4d : Boxed W3.drew (B + 3) 3 (.int .i64 (L : Int)) := y4
          have c4d := y4d.cell
          have f4d := y4d.frozen
          have z1 : Boxed (W3.drew.setCell ⟨B + 3, 0, .none⟩ (.int .i64 (L1 : Int))) B 3 (.int .i64 (n : Int)) := Boxed.other (W := W3.drew) y1 (by omega) _
          have z2 : Boxed (W3.drew.setCell ⟨B + 3, 0, .none⟩ (.int .i64 (L1 : Int))) (B + 1) 3 (.int .i64 (none : Int)) := Boxed.other (W := W3.drew) y2 (by omega) _
          have z3 : Boxed (W3.drew.setCell ⟨B + 3, 0, .none⟩ (.int .i64 (L1 : Int))) (B + 2) 3 (.int .i64 (each : Int)) := Boxed.other (W := W3.drew) y3 (by omega) _
          have z4 : Boxed (W3.drew.setCell ⟨B + 3, 0, .none⟩ (.int .i64 (L1 : Int))) (B + 3) 3 (.int .i64 (L1 : Int)) := y4d.set _
          have zJ : J (k + 1) (W3.drew.setCell ⟨B + 3, 0, .none⟩ (.int .i64 (L1 : Int))) := hJ _ _ _ _ (hJ _ _ _ .none hJ3 (grown_draws W3 1 .none) (fun r e => by cases e)) (grownBy_setCell' W3.drew (B + 3) _) (fun r e => by cases e; rfl)
          have Z1 := Lib.hid z1; clear z1
          have Z2 := Lib.hid z2; clear z2
          have Z3 := Lib.hid z3; clear z3
          have Z4 := Lib.hid z4; clear z4
          have ZJ := Lib.hid zJ; clear zJ
          clear y1 y2 y3 y4 y4d hJ3 hk3 h1 h2 h3 h4
          gi_wp2
          refine regionL (fun w' => w'.cell? ⟨B + 3, 0, .none⟩ = some (.int .i64 (L : Int))) (by kernel_rfl) ?_
          have hSS : (fun w' : World => w'.cell? ⟨B + 3, 0, .none⟩ = some (.int .i64 (L : Int))) W3.drew := c4d
          refine AnyL.take (i := 0) (v := ?_) rfl (by kernel_rfl) (by kernel_rfl) (by kernel_rfl) (by kernel_rfl) (fun _ _ _ h => h) (by assumption) (by rfl) (fun _ => rfl) ?_ ?_
          rotate_left
          focus (intro w hSw; (try dsimp only at hSw); go_split_ands; go_simp; (try with_reducible rfl))
          (try simp only [Act.put, List.setIfInBounds_toArray, List.set_cons_zero, List.set_cons_succ, Array.setIfInBounds_toArray])
          refine AnyL.take (i := 1) (v := ?_) rfl (by kernel_rfl) (by kernel_rfl) (by kernel_rfl) (by kernel_rfl) (fun _ _ _ h => h) (by assumption) (by rfl) (fun _ => rfl) ?_ ?_
          rotate_left
          focus (intro w hSw; (try dsimp only at hSw); go_split_ands; go_simp; (try with_reducible rfl))
          (try simp only [Act.put, List.setIfInBounds_toArray, List.set_cons_zero, List.set_cons_succ, Array.setIfInBounds_toArray])
          refine AnyL.take (i := 2) (v := ?_) rfl (by kernel_rfl) (by kernel_rfl) (by kernel_rfl) (by kernel_rfl) (fun _ _ _ h => h) (by assumption) (by rfl) (fun _ => rfl) ?_ ?_
          rotate_left
          focus (intro w hSw; (try dsimp only at hSw); go_split_ands; go_simp; (try with_reducible rfl))
          (try simp only [Act.put, List.setIfInBounds_toArray, List.set_cons_zero, List.set_cons_succ, Array.setIfInBounds_toArray])
          refine AnyL.take (i := 3) (v := ?_) rfl (by kernel_rfl) (by kernel_rfl) (by kernel_rfl) (by kernel_rfl) (fun _ _ _ h => h) (by assumption) (by rfl) (fun _ => rfl) ?_ ?_
          rotate_left
          focus (intro w hSw; (try dsimp only at hSw); go_split_ands; go_simp; (try with_reducible rfl))
          (try simp only [Act.put, List.setIfInBounds_toArray, List.set_cons_zero, List.set_cons_succ, Array.setIfInBounds_toArray])
          refine AnyL.only (i := 4) (by kernel_rfl) rfl (by rfl) (fun K hK => ?_)
          go_simp
          refine hK.out _ _ (fun h => absurd h (by decide +kernel)) ?_
          clear hK K
          refine AnyL.done (by kernel_rfl) ?_ _
          gi_wp2
          skip
          go_roundw
          case rel => exact ⟨k + 1, by omega, by simp, ZJ.out, Z1.out, Z2.out, Z3.out, by rw [HL1.out]; exact Z4.out⟩
          case measure => simp [intOf]; omega
        · gi_wp2
          refine bodyPost_ret (results_none rfl _ _ _) rfl ?_
          exact ⟨⟨_, rfl⟩, .inr ⟨_, by omega, hJx3⟩⟩
      · have hq0 : q = 0 := by rw [← hq, bitsK, if_neg hkn]
        subst hq0
        have hkn2 : ¬ (none : Int) ≤ (k : Int) := by omega
        have hz : ((0 : Nat) : Int) = 0 := rfl
        rw [hz] at hy hq64
        clear hz hq
        have hp0 : (pw : Int) = 1 := by rw [← hpw]; rfl
        have e2' : (L : Int) + 1 = (L1 : Int) := by omega
        clear hpw w1 e2 hp0
        gi_wp2
        refine hR.mono ?_
        rintro e W3 (⟨rfl, hJ3, hk3⟩ | ⟨rfl, hJx3⟩)
        · have y1 : Boxed W3 B 3 (.int .i64 (n : Int)) := (hk3 B ⟨by omega, by omega⟩).trans h1
          have y2 : Boxed W3 (B + 1) 3 (.int .i64 (none : Int)) := (hk3 (B + 1) ⟨by omega, by omega⟩).trans h2
          have y3 : Boxed W3 (B + 2) 3 (.int .i64 (each : Int)) := (hk3 (B + 2) ⟨by omega, by omega⟩).trans h3
          have y4 : Boxed W3 (B + 3) 3 (.int .i64 (L : Int)) := (hk3 (B + 3) ⟨by omega, by omega⟩).trans h4
          have y4d : Boxed W3.drew (B + 3) 3 (.int .i64 (L : Int)) := y4
          have c4d := y4d.cell
          have f4d := y4d.frozen
          have z1 : Boxed (W3.drew.setCell ⟨B + 3, 0, .none⟩ (.int .i64 (L1 : Int))) B 3 (.int .i64 (n : Int)) := Boxed.other (W := W3.drew) y1 (by omega) _
          have z2 : Boxed (W3.drew.setCell ⟨B + 3, 0, .none⟩ (.int .i64 (L1 : Int))) (B + 1) 3 (.int .i64 (none : Int)) := Boxed.other (W := W3.drew) y2 (by omega) _
          have z3 : Boxed (W3.drew.setCell ⟨B + 3, 0, .none⟩ (.int .i64 (L1 : Int))) (B + 2) 3 (.int .i64 (each : Int)) := Boxed.other (W := W3.drew) y3 (by omega) _
          have z4 : Boxed (W3.drew.setCell ⟨B + 3, 0, .none⟩ (.int .i64 (L1 : Int))) (B + 3) 3 (.int .i64 (L1 : Int)) := y4d.set _
          have zJ : J (k + 1) (W3.drew.setCell ⟨B + 3, 0, .none⟩ (.int .i64 (L1 : Int))) := hJ _ _ _ _ (hJ _ _ _ .none hJ3 (grown_draws W3 1 .none) (fun r e => by cases e)) (grownBy_setCell' W3.drew (B + 3) _) (fun r e => by cases e; rfl)
          have Z1 := Lib.hid z1; clear z1
          have Z2 := Lib.hid z2; clear z2
          have Z3 := Lib.hid z3; clear z3
          have Z4 := Lib.hid z4; clear z4
          have ZJ := Lib.hid zJ; clear zJ
          clear y1 y2 y3 y4 y4d hJ3 hk3 h1 h2 h3 h4
          gi_wp2
          refine regionL (fun w' => w'.cell? ⟨B + 3, 0, .none⟩ = some (.int .i64 (L : Int))) (by kernel_rfl) ?_
          have hSS : (fun w' : World => w'.cell? ⟨B + 3, 0, .none⟩ = some (.int .i64 (L : Int))) W3.drew := c4d
          refine AnyL.take (i := 0) (v := ?_) rfl (by kernel_rfl) (by kernel_rfl) (by kernel_rfl) (by kernel_rfl) (fun _ _ _ h => h) (by assumption) (by rfl) (fun _ => rfl) ?_ ?_
          rotate_left
          focus (intro w hSw; (try dsimp only at hSw); go_split_ands; go_simp; (try with_reducible rfl))
          (try simp only [Act.put, List.setIfInBounds_toArray, List.set_cons_zero, List.set_cons_succ, Array.setIfInBounds_toArray])
          refine AnyL.take (i := 1) (v := ?_) rfl (by kernel_rfl) (by kernel_rfl) (by kernel_rfl) (by kernel_rfl) (fun _ _ _ h => h) (by assumption) (by rfl) (fun _ => rfl) ?_ ?_
          rotate_left
          focus (intro w hSw; (try dsimp only at hSw); go_split_ands; go_simp; (try with_reducible rfl))
          (try simp only [Act.put, List.setIfInBounds_toArray, List.set_cons_zero, List.set_cons_succ, Array.setIfInBounds_toArray])
          refine AnyL.take (i := 2) (v := ?_) rfl (by kernel_rfl) (by kernel_rfl) (by kernel_rfl) (by kernel_rfl) (fun _ _ _ h => h) (by assumption) (by rfl) (fun _ => rfl) ?_ ?_
          rotate_left
          focus (intro w hSw; (try dsimp only at hSw); go_split_ands; go_simp; (try with_reducible rfl))
          (try simp only [Act.put, List.setIfInBounds_toArray, List.set_cons_zero, List.set_cons_succ, Array.setIfInBounds_toArray])
          refine AnyL.take (i := 3) (v := ?_) rfl (by kernel_rfl) (by kernel_rfl) (by kernel_rfl) (by kernel_rfl) (fun _ _ _ h => h) (by assumption) (by rfl) (fun _ => rfl) ?_ ?_
          rotate_left
          focus (intro w hSw; (try dsimp only at hSw); go_split_ands; go_simp; (try with_reducible rfl))
          (try simp only [Act.put, List.setIfInBounds_toArray, List.set_cons_zero, List.set_cons_succ, Array.setIfInBounds_toArray])
          refine AnyL.only (i := 4) (by kernel_rfl) rfl (by rfl) (fun K hK => ?_)
          go_simp
          refine hK.out _ _ (fun h => absurd h (by decide +kernel)) ?_
          clear hK K
          refine AnyL.done (by kernel_rfl) ?_ _
          gi_wp2
          rw [e2']
          go_roundw
          case rel => exact ⟨k + 1, by omega, by simp, ZJ.out, Z1.out, Z2.out, Z3.out, by rw [HL1.out]; exact Z4.out⟩
          case measure => simp [intOf]; omega
        · gi_wp2
          refine bodyPost_ret (results_none rfl _ _ _) rfl ?_
          exact ⟨⟨_, rfl⟩, .inr ⟨_, by omega, hJx3⟩⟩
    · obtain rfl : k = n := by omega
      gi_wp2
      go_end0
      exact ⟨⟨_, rfl⟩, .inl hJs⟩
end Go.Proofs.Ytlmpooibpopcaaa
