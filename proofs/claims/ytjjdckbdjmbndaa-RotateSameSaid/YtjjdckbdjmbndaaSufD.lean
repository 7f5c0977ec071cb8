/- sufsort: the closures. -/
import Derived.Test.YtjjdckbdjmbndaaSufB
import Derived.Test.YtjjdckbdjmbndaaSufC
import Derived.RangeFuncBox
namespace Go.Proofs.Ytjjdckbdjmbndaa
set_option linter.unusedSimpArgs false
set_option linter.unusedVariables false
open Go.RowKit

theorem cell_alloc {W : World} {a : Addr} {v : Value} (h : W.cell? a = some v) (o : Obj) : (W.alloc o).cell? a = some v := by
  have h1 := ((Below.refl W.heap.size W).alloc (Nat.le_refl _) o).cell (p := a) (World.block_lt_of_cell? W a h)
  rw [h1]; exact h

def nxI (nx : Nat → Nat → Option Nat) (i k : Nat) : Int := match nx i k with | some j => (j : Int) | none => -1

/-- the function that answers the place so many behind -/
def NextOf (w : World) (nf : Nat) (lb : Array Value) (nx : Nat → Nat → Option Nat) (n : Nat) : Prop :=
  ∀ i k, i < n → k ≤ 400000 → ∀ W, Below w.heap.size w W → Calls Try.prog nf (#[.int .i64 (i : Int), .int .i64 (k : Int)] ++ lb) W fun e W' => e = .returned (.int .i64 (nxI nx i k)) ∧ W = W'

set_option maxHeartbeats 1000000 in
theorem key1_law (W : World) (T : Nat) (R n i x : Nat) (hT : W.cell? ⟨T, 0, none⟩ = some (.slice (some ⟨R, 0, none⟩) n n)) (hi : i < n) (hx : W.cell? ⟨R, i, none⟩ = some (.int .i64 (x : Int))) :
    Calls Try.prog 25 #[.int .i64 (i : Int), .pointer (some ⟨T, 0, none⟩)] W fun e W' => e = .returned (.int .i64 (x : Int)) ∧ W = W' := by
  go_enter Try.func25, Try.ntmps25
  go_wp2
  go_ret
  simp

set_option maxHeartbeats 1000000 in
theorem pair_law (W : World) (N K T R n nf : Nat) (lb : Array Value) (nx : Nat → Nat → Option Nat) (r : Nat → Nat) (i k : Nat)
    (hN : W.cell? ⟨N, 0, none⟩ = some (.func (.func nf) #[] lb)) (hK : W.cell? ⟨K, 0, none⟩ = some (.int .i64 (k : Int))) (hT : W.cell? ⟨T, 0, none⟩ = some (.slice (some ⟨R, 0, none⟩) n n))
    (hi : i < n) (hr : ∀ j, j < n → W.cell? ⟨R, j, none⟩ = some (.int .i64 (r j : Int))) (hj : ∀ j, nx i k = some j → j < n)
    (hnx : Calls Try.prog nf (#[.int .i64 (i : Int), .int .i64 (k : Int)] ++ lb) (W.alloc (.cells #[.int .i64 0, .int .i64 0] 47)) fun e W' => e = .returned (.int .i64 (nxI nx i k)) ∧ (W.alloc (.cells #[.int .i64 0, .int .i64 0] 47)) = W')
    (eg : ∀ args w, (callFunc nf args).run Try.prog w = .ok (.enter nf args) w) :
    Calls Try.prog 26 #[.int .i64 (i : Int), .pointer (some ⟨N, 0, none⟩), .pointer (some ⟨K, 0, none⟩), .pointer (some ⟨T, 0, none⟩)] W fun e W' =>
      e = .returned (.agg #[.int .i64 (r i : Int), .int .i64 (snd' nx r k i : Int)]) ∧ Below W.heap.size W W' := by
  have hri := cell_alloc (hr i hi) (.cells #[.int .i64 0, .int .i64 0] 47)
  have hr' : ∀ j, j < n → (W.alloc (.cells #[.int .i64 0, .int .i64 0] 47)).cell? ⟨R, j, none⟩ = some (.int .i64 (r j : Int)) := fun j hj => cell_alloc (hr j hj) _
  have HR := Lib.hid hr'; clear hr hr'
  have hN' := cell_alloc hN (.cells #[.int .i64 0, .int .i64 0] 47)
  have hK' := cell_alloc hK (.cells #[.int .i64 0, .int .i64 0] 47)
  have hT' := cell_alloc hT (.cells #[.int .i64 0, .int .i64 0] 47)
  have HJ := Lib.hid hj; clear hj
  have HN := Lib.hid hnx; clear hnx
  go_enter Try.func26, Try.ntmps26
  go_wp2_with fail
  refine HN.out.mono ?_
  rintro e W1 ⟨rfl, rfl⟩
  cases hn : nx i k with
  | none =>
    rw [show nxI nx i k = -1 by simp [nxI, hn]]
    have hs : snd' nx r k i = 0 := by simp [snd', hn]
    have HS := Lib.hid hs
    clear hn hs
    go_wp2_with fail
    exact bodyPost_ret (v := .agg #[.int .i64 (r i : Int), .int .i64 0]) (by simp [results, Try.results26, go_sem]) rfl ⟨by rw [HS.out]; rfl, by
      exact (Below.refl _ W).alloc (Nat.le_refl _) _⟩
  | some j =>
    rw [show nxI nx i k = (j : Int) by simp [nxI, hn]]
    have hs : snd' nx r k i = r j := by simp [snd', hn]
    have HS := Lib.hid hs
    have hjn := HJ.out j hn
    have hrj := HR.out j hjn
    clear hn hs
    go_wp2_with fail
    go_region
    all_goals
      go_wp2_with fail
      exact bodyPost_ret (v := .agg #[.int .i64 (r i : Int), .int .i64 (r j : Int)]) (by simp [results, Try.results26, go_sem]) rfl ⟨by rw [HS.out], by
        exact ((Below.refl _ W).alloc (Nat.le_refl _) _).drew⟩

set_option maxHeartbeats 1000000 in
theorem key3_law (W : World) (F i a b : Nat) (lb : Array Value) (hF : W.cell? ⟨F, 0, none⟩ = some (.func (.func 26) #[] lb))
    (hp : Calls Try.prog 26 (#[.int .i64 (i : Int)] ++ lb) W fun e W' => e = .returned (.agg #[.int .i64 (a : Int), .int .i64 (b : Int)]) ∧ Below W.heap.size W W') :
    Calls Try.prog 27 #[.int .i64 (i : Int), .pointer (some ⟨F, 0, none⟩)] W fun e W' => e = .returned (.int .i64 (b : Int)) ∧ Below W.heap.size W W' := by
  have HP := Lib.hid hp; clear hp
  have hix : ∀ w : World, (Instr.index 47 (.agg #[.int .i64 (a : Int), .int .i64 (b : Int)]) (.int .i64 1)).run Try.prog w = .ok (.int .i64 (b : Int)) w := fun w => by
    simp [Instr.index, go_sem, Try.underlying47]
  go_enter Try.func27, Try.ntmps27
  go_wp2_with fail
  refine HP.out.mono ?_
  rintro e W1 ⟨rfl, hb⟩
  go_wp2_with fail
  go_ret
  exact ⟨rfl, hb⟩
set_option maxHeartbeats 1000000 in
theorem key4_law (W : World) (F i a b : Nat) (lb : Array Value) (hF : W.cell? ⟨F, 0, none⟩ = some (.func (.func 26) #[] lb))
    (hp : Calls Try.prog 26 (#[.int .i64 (i : Int)] ++ lb) W fun e W' => e = .returned (.agg #[.int .i64 (a : Int), .int .i64 (b : Int)]) ∧ Below W.heap.size W W') :
    Calls Try.prog 28 #[.int .i64 (i : Int), .pointer (some ⟨F, 0, none⟩)] W fun e W' => e = .returned (.int .i64 (a : Int)) ∧ Below W.heap.size W W' := by
  have HP := Lib.hid hp; clear hp
  have hix : ∀ w : World, (Instr.index 47 (.agg #[.int .i64 (a : Int), .int .i64 (b : Int)]) (.int .i64 0)).run Try.prog w = .ok (.int .i64 (a : Int)) w := fun w => by
    simp [Instr.index, go_sem, Try.underlying47]
  go_enter Try.func28, Try.ntmps28
  go_wp2_with fail
  refine HP.out.mono ?_
  rintro e W1 ⟨rfl, hb⟩
  go_wp2_with fail
  go_ret
  exact ⟨rfl, hb⟩
end Go.Proofs.Ytjjdckbdjmbndaa
