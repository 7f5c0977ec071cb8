/- sort.Search of token.rule.find, and find. -/
import Derived.Test.YtlmpooibpopcaaaTokB
namespace Go.Proofs.Ytlmpooibpopcaaa
set_option linter.unusedSimpArgs false
set_option linter.unusedVariables false
open Go.RowKit Go.Shelf
attribute [local go_sem] Oper.semAt_some

/-- the place of a number among leasts -/
def AtP (xs : List Nat) (x k : Nat) : Prop := k < xs.length ∧ atN xs k ≤ x ∧ (k + 1 < xs.length → x < atN xs (k + 1))

theorem find1_law (w : World) (R : Nat) (aA : Option Addr) (m cA : Nat) (v : Value) (hv : v.oneCell' = true) (xs : List Nat) (x i : Nat) (h0 : w.heap[R]? = some (.cells #[.slice aA m cA, v] 46 (0, 0))) (h1 : Boxed w (R + 1) 3 (.int .i64 (x : Int))) (hA : Rd w 1 aA m cA (N64 xs)) (hi : i < m) (hm : m ≤ 1000) :
    Calls Try.prog 33 #[.int .i64 (i : Int), .pointer (some ⟨R, 0, none⟩), .pointer (some ⟨R + 1, 0, none⟩)] w fun e w' => e = .returned (.bool (decide (x < atN xs i))) ∧ Below w.heap.size w w' := by
  obtain ⟨ne, ce⟩ := hA.getN hi
  have o := ownTwo h0 R (Nat.le_refl _) rfl hv
  have c0 := (o.read (j := 0) (u := .slice aA m cA) rfl).1
  have cx := h1.cell
  clear h0 h1 hA o
  generalize atN xs i = y at *
  go_enter Try.func33, Try.ntmps33
  go_wp2_with fail
  (try simp only [List.append])
  refine wp_region_quiet_lit (by kernel_rfl) (by kernel_rfl) ?_
  repeat (go_big_quiet_step (fail))
  refine wpQuiet_nil ?_
  intro _ hw'
  obtain ⟨nq, hw''⟩ := hw'
  subst hw''
  go_wp2_with fail
  go_ret
  exact ⟨rfl, bDraws (Below.refl _ _) nq⟩

theorem half_mid (i j : Nat) (hij : i < j) : i ≤ (i + j) / 2 ∧ (i + j) / 2 < j := by omega

set_option maxRecDepth 100000 in
set_option maxHeartbeats 2000000 in
theorem search_law (w : World) (R : Nat) (aA : Option Addr) (m cA : Nat) (v : Value) (hv : v.oneCell' = true) (xs : List Nat) (x : Nat) (h0 : w.heap[R]? = some (.cells #[.slice aA m cA, v] 46 (0, 0))) (h1 : Boxed w (R + 1) 3 (.int .i64 (x : Int))) (hA : Rd w 1 aA m cA (N64 xs)) (hm : m ≤ 1000) :
    Calls Try.prog 32 #[.int .i64 (m : Int), .func (.func 33) #[] #[.pointer (some ⟨R, 0, none⟩), .pointer (some ⟨R + 1, 0, none⟩)]] w fun e w' => (∃ i : Nat, i ≤ m ∧ (0 < i → atN xs (i - 1) ≤ x) ∧ (i < m → x < atN xs i) ∧ e = .returned (.int .i64 (i : Int))) ∧ Below w.heap.size w w' := by
  have hcall : ∀ (wr : World) (i : Nat), Below w.heap.size w wr → i < m → Calls Try.prog 33 #[.int .i64 (i : Int), .pointer (some ⟨R, 0, none⟩), .pointer (some ⟨R + 1, 0, none⟩)] wr fun e w' => e = .returned (.bool (decide (x < atN xs i))) ∧ Below wr.heap.size wr w' := fun wr i hb hi =>
    find1_law wr R aA m cA v hv xs x i ((hb.block R (Array.getElem?_eq_some_iff.1 h0).1).trans h0) ((hb.block _ h1.lt).trans h1) (hA.below hb) hi hm
  have HC := Lib.hid hcall; clear hcall
  clear h0 h1 hA
  go_enter Try.func32, Try.ntmps32
  go_wp2_with fail
  go_loopg [5, 6] m (fun k a b wr => ∃ i j : Nat, i ≤ j ∧ j ≤ m ∧ k = j - i ∧ a = .int .i64 i ∧ b = .int .i64 j ∧ Below w.heap.size w wr ∧ Hid (0 < i → atN xs (i - 1) ≤ x) ∧ Hid (j < m → x < atN xs j))
  case atStart => exact ⟨0, m, Nat.zero_le _, Nat.le_refl _, by simp, rfl, rfl, Below.refl _ _, Lib.hid (fun h => absurd h (by simp)), Lib.hid (fun h => absurd h (by simp))⟩
  case round =>
    obtain ⟨i, j, hij, hjm, rfl, rfl, rfl, hb, hlo, hhi⟩ := hrel
    rename World => wr
    by_cases hlt : i < j
    · obtain ⟨g1, g2⟩ := half_mid i j hlt
      have hc := HC.out wr ((i + j) / 2) hb (by omega)
      generalize hh : (i + j) / 2 = h at *
      have HCC := Lib.hid hc; clear hc
      have he : ((i : Int) + (j : Int)) / 2 = (h : Int) := by omega
      clear hh HC
      have HE := Lib.hid he; clear he
      go_wp2_with fail
      rw [HE.out]
      refine HCC.out.mono ?_
      rintro e w2 ⟨rfl, b2⟩
      have hb2 := hb.trans (b2.mono hb.size)
      by_cases hx : x < atN xs h
      · have hf : decide (x < atN xs h) = true := decide_eq_true hx
        rw [hf]
        have hhi2 := Lib.hid (fun (_ : h < m) => hx)
        clear hx hf
        go_wp2_with fail
        go_roundg (h - i)
        case measure => omega
        case rel => exact ⟨i, h, g1, by omega, rfl, rfl, rfl, hb2, hlo, hhi2⟩
      · have hf : decide (x < atN xs h) = false := decide_eq_false hx
        rw [hf]
        have hlo2 : Hid (0 < h + 1 → atN xs (h + 1 - 1) ≤ x) := Lib.hid (fun _ => by rw [Nat.add_sub_cancel]; omega)
        clear hx hf
        go_wp2_with fail
        go_roundg (j - (h + 1))
        case measure => omega
        case rel => exact ⟨h + 1, j, by omega, hjm, rfl, by simp, rfl, hb2, hlo2, hhi⟩
    · obtain rfl : i = j := by omega
      go_wp2_with fail
      go_ret
      exact ⟨⟨i, hjm, hlo.out, hhi.out, rfl⟩, hb⟩

set_option maxRecDepth 100000 in
set_option maxHeartbeats 2000000 in
theorem find_law (w : World) (aA aB : Option Addr) (m cA cB : Nat) (xs ys : List Nat) (x : Nat) (hA : Rd w 1 aA m cA (N64 xs)) (hB : Rd w 1 aB m cB (N64 ys)) (hm : m ≤ 1000) (hm0 : 0 < m) (hx : atN xs 0 ≤ x) (hx2 : x ≤ 100000) :
    Calls Try.prog 28 #[.agg #[.slice aA m cA, .slice aB m cB], .int .i64 (x : Int)] w fun e w' => (∃ k : Nat, AtP xs x k ∧ e = .returned (.tuple #[.int .i64 (k : Int), .int .i64 ((atN ys k : Nat) : Int), .int .i64 ((x - atN xs k : Nat) : Int)])) ∧ Below w.heap.size w w' := by
  have hl := hA.lenN
  have HL := Lib.hid hl; clear hl
  go_enter Try.func28, Try.ntmps28
  obtain ⟨Z, hZ⟩ : ∃ Z, w.heap.size = Z := ⟨_, rfl⟩
  go_upto_region 1 with fail
  have q0 : ((w.alloc (.cells #[.slice aA m cA, .slice aB m cB] 46)).alloc (.cells #[.int .i64 (x : Int)] 3)).heap[Z]? = some (.cells #[.slice aA m cA, .slice aB m cB] 46 (0, 0)) := by
    rw [← hZ]; exact (Below.heap_alloc _ _ _ (by simp)).trans (World.alloc_heap_new w _)
  have q1 : Boxed ((w.alloc (.cells #[.slice aA m cA, .slice aB m cB] 46)).alloc (.cells #[.int .i64 (x : Int)] 3)) (Z + 1) 3 (.int .i64 (x : Int)) := by
    have := Boxed.new (w.alloc (.cells #[.slice aA m cA, .slice aB m cB] 46)) 3 (.int .i64 (x : Int))
    rwa [World.size_alloc, hZ] at this
  have b2 : Below w.heap.size w ((w.alloc (.cells #[.slice aA m cA, .slice aB m cB] 46)).alloc (.cells #[.int .i64 (x : Int)] 3)) := ((Below.refl _ w).alloc (Nat.le_refl _) _).alloc (by simp) _
  generalize ((w.alloc (.cells #[.slice aA m cA, .slice aB m cB] 46)).alloc (.cells #[.int .i64 (x : Int)] 3)) = w2 at *
  have o := ownTwo q0 Z (Nat.le_refl _) rfl rfl
  have c0 := (o.read (j := 0) (u := .slice aA m cA) rfl).1
  have hs := search_law w2 Z aA m cA (.slice aB m cB) rfl xs x q0 q1 (hA.below b2) hm
  have HS := Lib.hid hs; clear hs
  have HZ := Lib.hid hZ; clear hZ
  go_wp2_with fail
  refine HS.out.mono ?_
  rintro e w3 ⟨⟨i, hi, h1, h2, rfl⟩, b3⟩
  have hi0 : 0 < i := by
    by_cases h : 0 < i
    · exact h
    · obtain rfl : i = 0 := by omega
      have := h2 hm0
      omega
  obtain ⟨k, rfl⟩ : ∃ k, i = k + 1 := ⟨i - 1, by omega⟩
  have h1 := h1 hi0
  rw [Nat.add_sub_cancel] at h1
  have hat : AtP xs x k := ⟨by rw [HL.out]; omega, h1, fun h => h2 (by rw [HL.out] at h; exact h)⟩
  have o3 := o.below b3
  have d0 := (o3.read (j := 0) (u := .slice aA m cA) rfl).1
  have d1 := (o3.read (j := 1) (u := .slice aB m cB) rfl).1
  have dx := (show Boxed w3 (Z + 1) 3 (.int .i64 (x : Int)) from (b3.block _ q1.lt).trans q1).cell
  have b4 : Below w.heap.size w w3 := b2.trans (b3.mono b2.size)
  obtain ⟨nA, eA⟩ := (hA.below b4).getN (k := k) (by omega)
  obtain ⟨nB, eB⟩ := (hB.below b4).getN (k := k) (by omega)
  have HAT := Lib.hid hat; clear hat
  clear o o3 q0 q1 b2 b3 h2 hx HS c0 hA hB
  generalize hy : atN xs k = y at *
  generalize hz : atN ys k = z at *
  have HY := Lib.hid hy; clear hy
  have HZ2 := Lib.hid hz; clear hz
  have hk : k < m := by omega
  go_wp2_with fail
  (try simp only [List.append])
  refine wp_region_quiet_lit (by kernel_rfl) (by kernel_rfl) ?_
  repeat (go_big_quiet_step (fail))
  refine wpQuiet_nil ?_
  intro _ hw'
  obtain ⟨nq, hw''⟩ := hw'
  subst hw''
  go_wp2_with fail
  refine bodyPost_ret (results_tmp3 rfl _ _ _) rfl ?_
  refine ⟨⟨k, HAT.out, ?_⟩, bDraws b4 nq⟩
  have e : Value.int .i64 ((x : Int) - (y : Int)) = .int .i64 ((x - atN xs k : Nat) : Int) := by rw [HY.out, Int.ofNat_sub h1]
  have e2 : Value.int .i64 (z : Int) = .int .i64 ((atN ys k : Nat) : Int) := by rw [HZ2.out]
  rw [← e, ← e2]
  rfl
end Go.Proofs.Ytlmpooibpopcaaa
