/- The library's iterators over a slice of ints: what they hand to yield, round by round. -/
import Derived.Test.YtnlemaaglbbdnaaRows
import Derived.Test.YtnlemaaglbbdnaaIter
namespace Go.Proofs.Ytnlemaaglbbdnaa
set_option linter.unusedSimpArgs false
set_option linter.unusedVariables false
open Go.RowKit Go.Shelf
attribute [local go_sem] Oper.semAt_some

/-- the index is taken modulo n: a law of the walk hands the body whatever pair there is -/
def pairE (n : Nat) (x : Nat × Int) : Array Value := #[.int .i64 ((x.1 % n : Nat) : Int), .int .i64 x.2]

set_option maxRecDepth 100000 in
set_option maxHeartbeats 2000000 in
theorem all1_in (m l Bs n₀ : Nat) (hm : 1 ≤ m) (ad : Option Addr) (n cap : Nat) (zs : List Int) (hbl : ∀ a, ad = some a → 0 < n → a.block < n₀) (J Jx : List (Nat × Int) → World → Prop)
    (hY : ∀ pre x W, J pre W → pre.length < n → YieldAt Fence.wide (m - 1) Try.prog l (pairE n x) W fun e W' =>
      (e = .returned (.bool true) ∧ J (pre ++ [x]) W' ∧ Below n₀ W W') ∨ (e = .returned (.bool false) ∧ Jx (pre ++ [x]) W'))
    (W : World) (hBs : W.cell? ⟨Bs, 0, none⟩ = some (.slice ad n cap)) (hc : Rd W 1 ad n cap (I64 zs)) (h0 : J [] W) :
    CallsIn Fence.wide m Try.prog 47 #[.func (.yield l) #[] #[], .pointer (some ⟨Bs, 0, none⟩)] W fun e W' => (∃ v, e = .returned v) ∧
      ((∃ ys, ys = upto (fun j => (j, atI zs j)) n ∧ J ys W') ∨ (∃ pre, (∃ k, k ≤ n ∧ pre = upto (fun j => (j, atI zs j)) k) ∧ Jx pre W')) := by
  have hcap : n ≤ 9223372036854775807 := by have := hc.ncap; have := hc.capM; unfold maxLen at this; omega
  refine callsIn_of_wp Try.func47 rfl trivial ?_ rfl
  simp only [Try.ntmps47, List.size_toArray, List.length_cons, List.length_nil, Nat.reduceAdd, Nat.reduceSub, Array.replicate_succ, Array.replicate_zero, List.push_toArray, List.append_toArray, List.nil_append, List.cons_append]
  gi_wp2
  gi_loopw [7] (fun i wr => ∃ k : Nat, k ≤ n ∧ i = .int .i64 k ∧ J (upto (fun j => (j, atI zs j)) k) wr ∧ Below n₀ W wr)
    (fun i _ => n - (intOf i).toNat)
  case atStart => exact ⟨0, Nat.zero_le _, rfl, h0, Below.refl _ _⟩
  case round =>
    obtain ⟨k, hk, rfl, hJs, hnx⟩ := hrel
    by_cases hlt : k < n
    · have hcw : Rd wr 1 ad n cap (I64 zs) := hc.keep fun a ha => hnx.block _ (hbl a ha (by omega))
      obtain ⟨hne, hcx⟩ := hcw.getI hlt
      obtain ⟨fn, tmps, assign, body, hy, hR⟩ := hY _ (k, atI zs k) wr hJs (by rw [upto_length]; exact hlt)
      dsimp only [pairE] at hy
      rw [Nat.mod_eq_of_lt hlt] at hy
      gi_wp2
      refine hR.mono ?_
      rintro e W3 (⟨rfl, hJ3, hk3⟩ | ⟨rfl, hJx3⟩)
      · gi_wp2
        go_roundw
        case rel => exact ⟨k + 1, by omega, by simp, by rw [upto_succ]; exact hJ3, hnx.trans hk3⟩
        case measure => simp [intOf]; omega
      · gi_wp2
        refine bodyPost_ret (results_none rfl _ _ _) rfl ?_
        exact ⟨⟨_, rfl⟩, .inr ⟨_, ⟨k + 1, by omega, (upto_succ _ _).symm⟩, hJx3⟩⟩
    · obtain rfl : k = n := by omega
      gi_wp2
      go_end0
      exact ⟨⟨_, rfl⟩, .inl ⟨_, rfl, hJs⟩⟩

set_option maxRecDepth 100000 in
set_option maxHeartbeats 2000000 in
theorem back1_in (m l Bs n₀ : Nat) (hm : 1 ≤ m) (ad : Option Addr) (n cap : Nat) (zs : List Int) (hbl : ∀ a, ad = some a → 0 < n → a.block < n₀) (hBsl : Bs < n₀) (J Jx : List (Nat × Int) → World → Prop)
    (hY : ∀ pre x W, J pre W → pre.length < n → YieldAt Fence.wide (m - 1) Try.prog l (pairE n x) W fun e W' =>
      (e = .returned (.bool true) ∧ J (pre ++ [x]) W' ∧ Below n₀ W W') ∨ (e = .returned (.bool false) ∧ Jx (pre ++ [x]) W'))
    (W : World) (hBs : W.cell? ⟨Bs, 0, none⟩ = some (.slice ad n cap)) (hc : Rd W 1 ad n cap (I64 zs)) (h0 : J [] W) :
    CallsIn Fence.wide m Try.prog 48 #[.func (.yield l) #[] #[], .pointer (some ⟨Bs, 0, none⟩)] W fun e W' => (∃ v, e = .returned v) ∧
      ((∃ ys, ys = upto (fun j => (n - 1 - j, atI zs (n - 1 - j))) n ∧ J ys W') ∨ (∃ pre, (∃ k, k ≤ n ∧ pre = upto (fun j => (n - 1 - j, atI zs (n - 1 - j))) k) ∧ Jx pre W')) := by
  have hcap : n ≤ 9223372036854775807 := by have := hc.ncap; have := hc.capM; unfold maxLen at this; omega
  refine callsIn_of_wp Try.func48 rfl trivial ?_ rfl
  simp only [Try.ntmps48, List.size_toArray, List.length_cons, List.length_nil, Nat.reduceAdd, Nat.reduceSub, Array.replicate_succ, Array.replicate_zero, List.push_toArray, List.append_toArray, List.nil_append, List.cons_append]
  gi_wp2
  gi_loopw [3] (fun i wr => ∃ k : Nat, k ≤ n ∧ i = .int .i64 ((n : Int) - 1 - (k : Int)) ∧ J (upto (fun j => (n - 1 - j, atI zs (n - 1 - j))) k) wr ∧ Below n₀ W wr)
    (fun i _ => (intOf i + 1).toNat)
  case atStart => exact ⟨0, Nat.zero_le _, by simp, h0, Below.refl _ _⟩
  case round =>
    obtain ⟨k, hk, rfl, hJs, hnx⟩ := hrel
    have hBw : wr.cell? ⟨Bs, 0, none⟩ = some (.slice ad n cap) := (hnx.cell (p := ⟨Bs, 0, none⟩) hBsl).trans hBs
    by_cases hlt : k < n
    · have hcw : Rd wr 1 ad n cap (I64 zs) := hc.keep fun a ha => hnx.block _ (hbl a ha (by omega))
      obtain ⟨hne, hcx⟩ := hcw.getI (k := n - 1 - k) (by omega)
      obtain ⟨fn, tmps, assign, body, hy, hR⟩ := hY _ (n - 1 - k, atI zs (n - 1 - k)) wr hJs (by rw [upto_length]; exact hlt)
      dsimp only [pairE] at hy
      rw [Nat.mod_eq_of_lt (show n - 1 - k < n by omega)] at hy
      have e : (n : Int) - 1 - (k : Int) = ((n - 1 - k : Nat) : Int) := by omega
      rw [e]
      have hjl : n - 1 - k < n := by omega
      have hup := upto_succ (fun j => (n - 1 - j, atI zs (n - 1 - j))) k
      have HU := Lib.hid hup; clear hup
      have HE := Lib.hid e; clear e
      generalize n - 1 - k = j at *
      gi_wp2
      refine hR.mono ?_
      rintro e W3 (⟨rfl, hJ3, hk3⟩ | ⟨rfl, hJx3⟩)
      · gi_wp2
        go_roundw
        case rel => exact ⟨k + 1, by omega, by have := HE.out; simp <;> omega, by rw [HU.out]; exact hJ3, hnx.trans hk3⟩
        case measure => have := HE.out; simp [intOf] <;> omega
      · gi_wp2
        refine bodyPost_ret (results_none rfl _ _ _) rfl ?_
        exact ⟨⟨_, rfl⟩, .inr ⟨_, ⟨k + 1, by omega, HU.out.symm⟩, hJx3⟩⟩
    · obtain rfl : k = n := by omega
      have hge : (k : Int) - 1 - (k : Int) < 0 := by omega
      gi_wp2
      go_end0
      exact ⟨⟨_, rfl⟩, .inl ⟨_, rfl, hJs⟩⟩

theorem all_any (w : World) (ad : Option Addr) (n cap : Nat) :
    Calls Try.prog 33 #[.slice ad n cap] w fun e w' => e = .returned (.func (.func 47) #[] #[.pointer (some ⟨w.heap.size, 0, none⟩)]) ∧ w.alloc (.cells #[.slice ad n cap] 28) = w' := by
  go_enter Try.func33, Try.ntmps33
  go_wp2
  go_ret
  exact ⟨rfl, rfl⟩
theorem back_any (w : World) (ad : Option Addr) (n cap : Nat) :
    Calls Try.prog 34 #[.slice ad n cap] w fun e w' => e = .returned (.func (.func 48) #[] #[.pointer (some ⟨w.heap.size, 0, none⟩)]) ∧ w.alloc (.cells #[.slice ad n cap] 28) = w' := by
  go_enter Try.func34, Try.ntmps34
  go_wp2
  go_ret
  exact ⟨rfl, rfl⟩

theorem all_stops (m Bs n₀ : Nat) (hm : 1 ≤ m) (ad : Option Addr) (n cap : Nat) (zs : List Int) (w : World) (hbl : ∀ a, ad = some a → 0 < n → a.block < n₀) (hn₀ : n₀ ≤ w.heap.size) (hBl : Bs < n₀) (hBs : w.cell? ⟨Bs, 0, none⟩ = some (.slice ad n cap)) (hc : Rd w 1 ad n cap (I64 zs)) :
    SeqStopsK Fence.wide m Try.prog 47 #[.pointer (some ⟨Bs, 0, none⟩)] (pairE n) (Below n₀) (fun ys => ys = upto (fun j => (j, atI zs j)) n) (fun _ => True) n w := fun l J Jx W hW _ _ hY h0 => by
  refine (all1_in m l Bs n₀ hm ad n cap zs hbl J Jx hY W ((hW.cell (p := ⟨Bs, 0, none⟩) (by simp; omega)).trans hBs) (hc.below hW) h0).mono ?_
  rintro e W' ⟨he, ⟨ys, hys, hj⟩ | ⟨pre, _, hj⟩⟩
  · exact ⟨he, .inl ⟨ys, hys, hj⟩⟩
  · exact ⟨he, .inr ⟨pre, trivial, hj⟩⟩
theorem back_stops (m Bs n₀ : Nat) (hm : 1 ≤ m) (ad : Option Addr) (n cap : Nat) (zs : List Int) (w : World) (hbl : ∀ a, ad = some a → 0 < n → a.block < n₀) (hn₀ : n₀ ≤ w.heap.size) (hBl : Bs < n₀) (hBs : w.cell? ⟨Bs, 0, none⟩ = some (.slice ad n cap)) (hc : Rd w 1 ad n cap (I64 zs)) :
    SeqStopsK Fence.wide m Try.prog 48 #[.pointer (some ⟨Bs, 0, none⟩)] (pairE n) (Below n₀) (fun ys => ys = upto (fun j => (n - 1 - j, atI zs (n - 1 - j))) n) (fun _ => True) n w := fun l J Jx W hW _ _ hY h0 => by
  refine (back1_in m l Bs n₀ hm ad n cap zs hbl hBl J Jx hY W ((hW.cell (p := ⟨Bs, 0, none⟩) (by simp; omega)).trans hBs) (hc.below hW) h0).mono ?_
  rintro e W' ⟨he, ⟨ys, hys, hj⟩ | ⟨pre, _, hj⟩⟩
  · exact ⟨he, .inl ⟨ys, hys, hj⟩⟩
  · exact ⟨he, .inr ⟨pre, trivial, hj⟩⟩
end Go.Proofs.Ytnlemaaglbbdnaa
