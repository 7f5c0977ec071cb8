/- the document's Length, Distance. -/
import Derived.Test.YtlmpooibpopcaaaTokE
namespace Go.Proofs.Ytlmpooibpopcaaa
set_option linter.unusedSimpArgs false
set_option linter.unusedVariables false
open Go.RowKit Go.Shelf
attribute [local go_sem] Oper.semAt_some

theorem wrapI (z : Int) (h1 : -9223372036854775808 ≤ z) (h2 : z ≤ 9223372036854775807) : IntKind.i64.wrap z = z := by
  simp [IntKind.wrap, IntKind.bits, IntKind.signed]; omega
theorem own_lit (w : World) (xs : List Nat) (n : Nat) (hn : xs.length = n) (hn2 : n ≤ 1000) (hn0 : 0 < n) : Own (w.alloc (.cells (N64 xs).toArray 3)) 3 1 w.heap.size (some ⟨w.heap.size, 0, none⟩) n n (N64 xs) :=
  ⟨⟨by simp [N64_len, hn], .inr ⟨w.heap.size, n, (N64 xs).toArray, rfl, Nat.le_refl _, World.alloc_heap_new w _, Nat.le_refl _, by unfold maxLen; omega, by simp [N64_len, hn], by simp [List.take_of_length_le, N64_len, hn]⟩⟩, N64_one xs⟩
theorem lengths_own (w : World) : Calls Try.prog 17 #[] w fun e w' => ∃ Z, e = .returned (.slice (some ⟨Z, 0, none⟩) 29 29) ∧ Own w' 3 1 w.heap.size (some ⟨Z, 0, none⟩) 29 29 (N64 lens29) ∧ Below w.heap.size w w' := by
  refine (lengths_law w).mono ?_
  rintro e w' ⟨rfl, rfl⟩
  exact ⟨_, rfl, own_lit w lens29 29 rfl (by decide) (by decide), (Below.refl _ w).alloc (Nat.le_refl _) _⟩
theorem distances_own (w : World) : Calls Try.prog 20 #[] w fun e w' => ∃ Z, e = .returned (.slice (some ⟨Z, 0, none⟩) 30 30) ∧ Own w' 3 1 w.heap.size (some ⟨Z, 0, none⟩) 30 30 (N64 disL) ∧ Below w.heap.size w w' := by
  refine (distances_law w).mono ?_
  rintro e w' ⟨rfl, rfl⟩
  exact ⟨_, rfl, own_lit w disL 30 rfl (by decide) (by decide), (Below.refl _ w).alloc (Nat.le_refl _) _⟩

theorem lengthBits257 (w : World) (k : Nat) (hk : k < 29) : Calls Try.prog 18 #[.int .i64 (257 + (k : Int))] w fun e w' => e = .returned (.int .i64 (bitL (257 + k) : Int)) ∧ w = w' := by
  have := lengthBits_law w (257 + k) (by omega)
  rwa [show ((257 + k : Nat) : Int) = 257 + (k : Int) by omega] at this
theorem lens29_mono : MonoN lens29 := MonoN.of (by decide +kernel)
theorem refLen_eq : ∀ x : Fin 256, lenT ((x.val + 3 : Nat) : Int) = (((257 + lastN lens29 (x.val + 3) : Nat) : Int), (bitL (257 + lastN lens29 (x.val + 3)) : Int), ((x.val + 3 - atN lens29 (lastN lens29 (x.val + 3)) : Nat) : Int), 0) := by decide +kernel
theorem disB_eq : ∀ k : Fin 30, atN disB k.val = bitD k.val := by decide +kernel

set_option maxRecDepth 100000 in
set_option maxHeartbeats 400000 in
theorem refLength_law (w : World) (n : Int) :
    Calls Try.prog 14 #[.int .i64 n] w fun e w' => e = .returned (q4 (lenT n)) ∧ Below w.heap.size w w' := by
  refine (callsIn_wide (n := 9)).1 ?_
  refine callsIn_of_wp Try.func14 rfl trivial ?_ rfl
  simp only [Try.ntmps14, List.size_toArray, List.length_cons, List.length_nil, Nat.reduceAdd, Nat.reduceSub, Array.replicate_succ, Array.replicate_zero, List.push_toArray, List.append_toArray, List.nil_append, List.cons_append]
  by_cases h : n < 3 ∨ 258 < n
  · have hq : q4 (lenT n) = .tuple #[.int .i64 0, .int .i64 0, .int .i64 0, .int .i64 5] := by rw [lenT, if_pos h]; rfl
    rw [hq]; clear hq
    by_cases h1 : n < 3
    · gi_wp2
      refine bodyPost_ret (results_tmp4 rfl _ _ _) rfl ?_
      exact ⟨rfl, Below.refl _ _⟩
    · have h2 : 258 < n := by omega
      gi_wp2
      refine bodyPost_ret (results_tmp4 rfl _ _ _) rfl ?_
      exact ⟨rfl, Below.refl _ _⟩
  · obtain ⟨x, rfl⟩ : ∃ x : Nat, n = x := ⟨n.toNat, by omega⟩
    have hx1 : 3 ≤ x := by omega
    have hx2 : x ≤ 258 := by omega
    have hq : lenT (x : Int) = (((257 + lastN lens29 x : Nat) : Int), (bitL (257 + lastN lens29 x) : Int), ((x - atN lens29 (lastN lens29 x) : Nat) : Int), 0) := by
      have := refLen_eq ⟨x - 3, by omega⟩
      simp only [show x - 3 + 3 = x by omega] at this
      exact this
    have HQ := Lib.hid hq; clear hq
    clear h
    gi_wp2
    refine callWide (lengths_own w) ?_
    rintro e w1 ⟨Z, rfl, o1, b1⟩
    gi_wp2
    refine callWide (last_law w1 _ 29 29 lens29 o1.rd (by decide) (by decide) x (by show 3 ≤ x; exact hx1)) ?_
    rintro e w2 ⟨⟨k, hk, rfl⟩, rfl⟩
    obtain rfl := hk.unique lens29_mono (lastN_at lens29 x (by decide) (by show 3 ≤ x; exact hx1))
    have hkb : lastN lens29 x < 29 := hk.1
    have hkx := hk.2.1
    clear hk
    generalize lastN lens29 x = k at *
    gi_wp2_with fail
    have b1d := b1.drew
    have hw : IntKind.i64.wrap (257 + (k : Int)) = 257 + (k : Int) := wrapI _ (by omega) (by omega)
    obtain ⟨y, hy⟩ : ∃ y, atN lens29 k = y := ⟨_, rfl⟩
    rw [hy] at hkx HQ
    have hw2 : IntKind.i64.wrap ((x : Int) - (y : Int)) = (x : Int) - (y : Int) := wrapI _ (by omega) (by omega)
    have HY := Lib.hid hy; clear hy
    have hki : (k : Int) < 29 := by omega
    have hk0 : (0 : Int) ≤ (k : Int) := by omega
    have hv : q4 (lenT (x : Int)) = .tuple #[.int .i64 (257 + (k : Int)), .int .i64 (bitL (257 + k) : Int), .int .i64 ((x : Int) - (y : Int)), .int .i64 0] := by
      rw [HQ.out, q4]; simp only [Int.ofNat_sub hkx]; rfl
    have HV := Lib.hid hv; clear hv HQ
    refine regionT [0, 1, 2, 3, 5, 7, 8, 9, 10, 11, 12, 13, 14] (fun _ => True) (by kernel_rfl) ?_
    have hSS : (fun w' : World => True) w1.drew := trivial
    refine AnyT.take (i := 0) (v := ?_) (by decide) (by kernel_rfl) rfl (by kernel_rfl) (by kernel_rfl) (by kernel_rfl) (by kernel_rfl) (fun _ _ _ h => h) (by assumption) (by rfl) (fun _ => rfl) ?_ ?_
    rotate_left
    focus (intro w hSw; (try dsimp only at hSw); go_split_ands; go_simp; (try with_reducible rfl))
    (try simp only [Act.put, List.setIfInBounds_toArray, List.set_cons_zero, List.set_cons_succ, Array.setIfInBounds_toArray])
    refine AnyT.take (i := 1) (v := ?_) (by decide) (by kernel_rfl) rfl (by kernel_rfl) (by kernel_rfl) (by kernel_rfl) (by kernel_rfl) (fun _ _ _ h => h) (by assumption) (by rfl) (fun _ => rfl) ?_ ?_
    rotate_left
    focus (intro w hSw; (try dsimp only at hSw); go_split_ands; go_simp; (try with_reducible rfl))
    (try simp only [Act.put, List.setIfInBounds_toArray, List.set_cons_zero, List.set_cons_succ, Array.setIfInBounds_toArray])
    refine AnyT.take (i := 2) (v := ?_) (by decide) (by kernel_rfl) rfl (by kernel_rfl) (by kernel_rfl) (by kernel_rfl) (by kernel_rfl) (fun _ _ _ h => h) (by assumption) (by rfl) (fun _ => rfl) ?_ ?_
    rotate_left
    focus (intro w hSw; (try dsimp only at hSw); go_split_ands; go_simp; (try with_reducible rfl))
    (try simp only [Act.put, List.setIfInBounds_toArray, List.set_cons_zero, List.set_cons_succ, Array.setIfInBounds_toArray])
    refine AnyT.take (i := 3) (v := ?_) (by decide) (by kernel_rfl) rfl (by kernel_rfl) (by kernel_rfl) (by kernel_rfl) (by kernel_rfl) (fun _ _ _ h => h) (by assumption) (by rfl) (fun _ => rfl) ?_ ?_
    rotate_left
    focus (intro w hSw; (try dsimp only at hSw); go_split_ands; go_simp; (try with_reducible rfl))
    (try simp only [Act.put, List.setIfInBounds_toArray, List.set_cons_zero, List.set_cons_succ, Array.setIfInBounds_toArray])
    refine AnyT.take (i := 5) (v := ?_) (by decide) (by kernel_rfl) rfl (by kernel_rfl) (by kernel_rfl) (by kernel_rfl) (by kernel_rfl) (fun _ _ _ h => h) (by assumption) (by rfl) (fun _ => rfl) ?_ ?_
    rotate_left
    focus (intro w hSw; (try dsimp only at hSw); go_split_ands; go_simp; (try with_reducible rfl))
    (try simp only [Act.put, List.setIfInBounds_toArray, List.set_cons_zero, List.set_cons_succ, Array.setIfInBounds_toArray])
    refine AnyT.take (i := 7) (v := ?_) (by decide) (by kernel_rfl) rfl (by kernel_rfl) (by kernel_rfl) (by kernel_rfl) (by kernel_rfl) (fun _ _ _ h => h) (by assumption) (by rfl) (fun _ => rfl) ?_ ?_
    rotate_left
    focus (intro w hSw; (try dsimp only at hSw); go_split_ands; go_simp; (try with_reducible rfl))
    (try simp only [Act.put, List.setIfInBounds_toArray, List.set_cons_zero, List.set_cons_succ, Array.setIfInBounds_toArray])
    refine AnyT.only (i := 4) (by kernel_rfl) rfl (by rfl) (fun K hK => ?_)
    go_simp
    refine callWide (lengthBits257 _ k hkb) ?_
    rintro e w7 ⟨rfl, rfl⟩
    refine hK.out _ _ (fun _ => trivial) ?_
    clear hK K
    refine AnyT.only (i := 6) (by kernel_rfl) rfl (by rfl) (fun K hK => ?_)
    go_simp
    refine callWide (lengths_own _) ?_
    rintro e w8 ⟨Z8, rfl, o8, b8⟩
    obtain ⟨c8, f8⟩ := o8.getN (k := k) hkb
    rw [HY.out] at c8
    go_simp
    refine hK.out _ _ (fun _ => trivial) ?_
    clear hK K
    refine AnyT.mono (S' := fun w' => w'.cell? ⟨Z8, k, none⟩ = some (.int .i64 (y : Int))) (fun _ _ => trivial) _ _ _ _ ?_
    have hSS' : (fun w' : World => w'.cell? ⟨Z8, k, none⟩ = some (.int .i64 (y : Int))) w8 := c8
    refine AnyT.take (i := 8) (v := ?_) (by decide) (by kernel_rfl) rfl (by kernel_rfl) (by kernel_rfl) (by kernel_rfl) (by kernel_rfl) (fun _ _ _ h => h) (by assumption) (by rfl) (fun _ => rfl) ?_ ?_
    rotate_left
    focus (intro w hSw; (try dsimp only at hSw); go_split_ands; go_simp; (try with_reducible rfl))
    (try simp only [Act.put, List.setIfInBounds_toArray, List.set_cons_zero, List.set_cons_succ, Array.setIfInBounds_toArray])
    refine AnyT.take (i := 9) (v := ?_) (by decide) (by kernel_rfl) rfl (by kernel_rfl) (by kernel_rfl) (by kernel_rfl) (by kernel_rfl) (fun _ _ _ h => h) (by assumption) (by rfl) (fun _ => rfl) ?_ ?_
    rotate_left
    focus (intro w hSw; (try dsimp only at hSw); go_split_ands; go_simp; (try with_reducible rfl))
    (try simp only [Act.put, List.setIfInBounds_toArray, List.set_cons_zero, List.set_cons_succ, Array.setIfInBounds_toArray])
    refine AnyT.take (i := 10) (v := ?_) (by decide) (by kernel_rfl) rfl (by kernel_rfl) (by kernel_rfl) (by kernel_rfl) (by kernel_rfl) (fun _ _ _ h => h) (by assumption) (by rfl) (fun _ => rfl) ?_ ?_
    rotate_left
    focus (intro w hSw; (try dsimp only at hSw); go_split_ands; go_simp; (try with_reducible rfl))
    (try simp only [Act.put, List.setIfInBounds_toArray, List.set_cons_zero, List.set_cons_succ, Array.setIfInBounds_toArray])
    refine AnyT.take (i := 11) (v := ?_) (by decide) (by kernel_rfl) rfl (by kernel_rfl) (by kernel_rfl) (by kernel_rfl) (by kernel_rfl) (fun _ _ _ h => h) (by assumption) (by rfl) (fun _ => rfl) ?_ ?_
    rotate_left
    focus (intro w hSw; (try dsimp only at hSw); go_split_ands; go_simp; (try with_reducible rfl))
    (try simp only [Act.put, List.setIfInBounds_toArray, List.set_cons_zero, List.set_cons_succ, Array.setIfInBounds_toArray])
    refine AnyT.take (i := 12) (v := ?_) (by decide) (by kernel_rfl) rfl (by kernel_rfl) (by kernel_rfl) (by kernel_rfl) (by kernel_rfl) (fun _ _ _ h => h) (by assumption) (by rfl) (fun _ => rfl) ?_ ?_
    rotate_left
    focus (intro w hSw; (try dsimp only at hSw); go_split_ands; go_simp; (try with_reducible rfl))
    (try simp only [Act.put, List.setIfInBounds_toArray, List.set_cons_zero, List.set_cons_succ, Array.setIfInBounds_toArray])
    refine AnyT.take (i := 13) (v := ?_) (by decide) (by kernel_rfl) rfl (by kernel_rfl) (by kernel_rfl) (by kernel_rfl) (by kernel_rfl) (fun _ _ _ h => h) (by assumption) (by rfl) (fun _ => rfl) ?_ ?_
    rotate_left
    focus (intro w hSw; (try dsimp only at hSw); go_split_ands; go_simp; (try with_reducible rfl))
    (try simp only [Act.put, List.setIfInBounds_toArray, List.set_cons_zero, List.set_cons_succ, Array.setIfInBounds_toArray])
    refine AnyT.take (i := 14) (v := ?_) (by decide) (by kernel_rfl) rfl (by kernel_rfl) (by kernel_rfl) (by kernel_rfl) (by kernel_rfl) (fun _ _ _ h => h) (by assumption) (by rfl) (fun _ => rfl) ?_ ?_
    rotate_left
    focus (intro w hSw; (try dsimp only at hSw); go_split_ands; go_simp; (try with_reducible rfl))
    (try simp only [Act.put, List.setIfInBounds_toArray, List.set_cons_zero, List.set_cons_succ, Array.setIfInBounds_toArray])
    refine AnyT.done (by kernel_rfl) ?_ _
    gi_wp2
    refine bodyPost_ret (results_tmp4 rfl _ _ _) rfl ?_
    exact ⟨by rw [HV.out]; rfl, b1d.trans (b8.mono b1d.size)⟩
set_option maxRecDepth 100000 in
set_option maxHeartbeats 400000 in
theorem refDistance_law (w : World) (n : Int) :
    Calls Try.prog 15 #[.int .i64 n] w fun e w' => e = .returned (q4 (disT n)) ∧ Below w.heap.size w w' := by
  refine (callsIn_wide (n := 9)).1 ?_
  refine callsIn_of_wp Try.func15 rfl trivial ?_ rfl
  simp only [Try.ntmps15, List.size_toArray, List.length_cons, List.length_nil, Nat.reduceAdd, Nat.reduceSub, Array.replicate_succ, Array.replicate_zero, List.push_toArray, List.append_toArray, List.nil_append, List.cons_append]
  by_cases h : n < 1 ∨ 32768 < n
  · have hq : q4 (disT n) = .tuple #[.int .i64 0, .int .i64 0, .int .i64 0, .int .i64 5] := by rw [disT, if_pos h]; rfl
    rw [hq]; clear hq
    by_cases h1 : n < 1
    · gi_wp2
      refine bodyPost_ret (results_tmp4 rfl _ _ _) rfl ?_
      exact ⟨rfl, Below.refl _ _⟩
    · have h2 : 32768 < n := by omega
      gi_wp2
      refine bodyPost_ret (results_tmp4 rfl _ _ _) rfl ?_
      exact ⟨rfl, Below.refl _ _⟩
  · obtain ⟨x, rfl⟩ : ∃ x : Nat, n = x := ⟨n.toNat, by omega⟩
    have hx1 : 1 ≤ x := by omega
    have hx2 : x ≤ 32768 := by omega
    have hlk := lastN_at disL x (by decide) (by show 1 ≤ x; exact hx1)
    have hq : disT (x : Int) = ((lastN disL x : Int), (bitD (lastN disL x) : Int), ((x - atN disL (lastN disL x) : Nat) : Int), 0) := by
      have := disB_eq ⟨lastN disL x, hlk.1⟩
      rw [disT, if_neg h, ← this]; rfl
    clear hlk
    have HQ := Lib.hid hq; clear hq
    clear h
    gi_wp2
    refine callWide (distances_own w) ?_
    rintro e w1 ⟨Z, rfl, o1, b1⟩
    gi_wp2
    refine callWide (last_law w1 _ 30 30 disL o1.rd (by decide) (by decide) x (by show 1 ≤ x; exact hx1)) ?_
    rintro e w2 ⟨⟨k, hk, rfl⟩, rfl⟩
    obtain rfl := hk.unique disL_mono (lastN_at disL x (by decide) (by show 1 ≤ x; exact hx1))
    have hkb : lastN disL x < 30 := hk.1
    have hkx := hk.2.1
    clear hk
    generalize lastN disL x = k at *
    gi_wp2_with fail
    have b1d := b1.drew
    obtain ⟨y, hy⟩ : ∃ y, atN disL k = y := ⟨_, rfl⟩
    rw [hy] at hkx HQ
    have hw2 : IntKind.i64.wrap ((x : Int) - (y : Int)) = (x : Int) - (y : Int) := wrapI _ (by omega) (by omega)
    have HY := Lib.hid hy; clear hy
    have hki : (k : Int) < 30 := by omega
    have hk0 : (0 : Int) ≤ (k : Int) := by omega
    have hv : q4 (disT (x : Int)) = .tuple #[.int .i64 (k : Int), .int .i64 (bitD k : Int), .int .i64 ((x : Int) - (y : Int)), .int .i64 0] := by
      rw [HQ.out, q4]; simp only [Int.ofNat_sub hkx]
    have HV := Lib.hid hv; clear hv HQ
    refine regionT [0, 1, 3, 5, 6, 7, 8, 9, 10, 11, 12] (fun _ => True) (by kernel_rfl) ?_
    have hSS : (fun w' : World => True) w1.drew := trivial
    refine AnyT.take (i := 0) (v := ?_) (by decide) (by kernel_rfl) rfl (by kernel_rfl) (by kernel_rfl) (by kernel_rfl) (by kernel_rfl) (fun _ _ _ h => h) (by assumption) (by rfl) (fun _ => rfl) ?_ ?_
    rotate_left
    focus (intro w hSw; (try dsimp only at hSw); go_split_ands; go_simp; (try with_reducible rfl))
    (try simp only [Act.put, List.setIfInBounds_toArray, List.set_cons_zero, List.set_cons_succ, Array.setIfInBounds_toArray])
    refine AnyT.take (i := 1) (v := ?_) (by decide) (by kernel_rfl) rfl (by kernel_rfl) (by kernel_rfl) (by kernel_rfl) (by kernel_rfl) (fun _ _ _ h => h) (by assumption) (by rfl) (fun _ => rfl) ?_ ?_
    rotate_left
    focus (intro w hSw; (try dsimp only at hSw); go_split_ands; go_simp; (try with_reducible rfl))
    (try simp only [Act.put, List.setIfInBounds_toArray, List.set_cons_zero, List.set_cons_succ, Array.setIfInBounds_toArray])
    refine AnyT.take (i := 3) (v := ?_) (by decide) (by kernel_rfl) rfl (by kernel_rfl) (by kernel_rfl) (by kernel_rfl) (by kernel_rfl) (fun _ _ _ h => h) (by assumption) (by rfl) (fun _ => rfl) ?_ ?_
    rotate_left
    focus (intro w hSw; (try dsimp only at hSw); go_split_ands; go_simp; (try with_reducible rfl))
    (try simp only [Act.put, List.setIfInBounds_toArray, List.set_cons_zero, List.set_cons_succ, Array.setIfInBounds_toArray])
    refine AnyT.take (i := 5) (v := ?_) (by decide) (by kernel_rfl) rfl (by kernel_rfl) (by kernel_rfl) (by kernel_rfl) (by kernel_rfl) (fun _ _ _ h => h) (by assumption) (by rfl) (fun _ => rfl) ?_ ?_
    rotate_left
    focus (intro w hSw; (try dsimp only at hSw); go_split_ands; go_simp; (try with_reducible rfl))
    (try simp only [Act.put, List.setIfInBounds_toArray, List.set_cons_zero, List.set_cons_succ, Array.setIfInBounds_toArray])
    refine AnyT.only (i := 2) (by kernel_rfl) rfl (by rfl) (fun K hK => ?_)
    go_simp
    refine callWide (distanceBits_law _ k (by omega)) ?_
    rintro e w7 ⟨rfl, rfl⟩
    refine hK.out _ _ (fun _ => trivial) ?_
    clear hK K
    refine AnyT.only (i := 4) (by kernel_rfl) rfl (by rfl) (fun K hK => ?_)
    go_simp
    refine callWide (distances_own _) ?_
    rintro e w8 ⟨Z8, rfl, o8, b8⟩
    obtain ⟨c8, f8⟩ := o8.getN (k := k) hkb
    rw [HY.out] at c8
    go_simp
    refine hK.out _ _ (fun _ => trivial) ?_
    clear hK K
    refine AnyT.mono (S' := fun w' => w'.cell? ⟨Z8, k, none⟩ = some (.int .i64 (y : Int))) (fun _ _ => trivial) _ _ _ _ ?_
    have hSS' : (fun w' : World => w'.cell? ⟨Z8, k, none⟩ = some (.int .i64 (y : Int))) w8 := c8
    refine AnyT.take (i := 6) (v := ?_) (by decide) (by kernel_rfl) rfl (by kernel_rfl) (by kernel_rfl) (by kernel_rfl) (by kernel_rfl) (fun _ _ _ h => h) (by assumption) (by rfl) (fun _ => rfl) ?_ ?_
    rotate_left
    focus (intro w hSw; (try dsimp only at hSw); go_split_ands; go_simp; (try with_reducible rfl))
    (try simp only [Act.put, List.setIfInBounds_toArray, List.set_cons_zero, List.set_cons_succ, Array.setIfInBounds_toArray])
    refine AnyT.take (i := 7) (v := ?_) (by decide) (by kernel_rfl) rfl (by kernel_rfl) (by kernel_rfl) (by kernel_rfl) (by kernel_rfl) (fun _ _ _ h => h) (by assumption) (by rfl) (fun _ => rfl) ?_ ?_
    rotate_left
    focus (intro w hSw; (try dsimp only at hSw); go_split_ands; go_simp; (try with_reducible rfl))
    (try simp only [Act.put, List.setIfInBounds_toArray, List.set_cons_zero, List.set_cons_succ, Array.setIfInBounds_toArray])
    refine AnyT.take (i := 8) (v := ?_) (by decide) (by kernel_rfl) rfl (by kernel_rfl) (by kernel_rfl) (by kernel_rfl) (by kernel_rfl) (fun _ _ _ h => h) (by assumption) (by rfl) (fun _ => rfl) ?_ ?_
    rotate_left
    focus (intro w hSw; (try dsimp only at hSw); go_split_ands; go_simp; (try with_reducible rfl))
    (try simp only [Act.put, List.setIfInBounds_toArray, List.set_cons_zero, List.set_cons_succ, Array.setIfInBounds_toArray])
    refine AnyT.take (i := 9) (v := ?_) (by decide) (by kernel_rfl) rfl (by kernel_rfl) (by kernel_rfl) (by kernel_rfl) (by kernel_rfl) (fun _ _ _ h => h) (by assumption) (by rfl) (fun _ => rfl) ?_ ?_
    rotate_left
    focus (intro w hSw; (try dsimp only at hSw); go_split_ands; go_simp; (try with_reducible rfl))
    (try simp only [Act.put, List.setIfInBounds_toArray, List.set_cons_zero, List.set_cons_succ, Array.setIfInBounds_toArray])
    refine AnyT.take (i := 10) (v := ?_) (by decide) (by kernel_rfl) rfl (by kernel_rfl) (by kernel_rfl) (by kernel_rfl) (by kernel_rfl) (fun _ _ _ h => h) (by assumption) (by rfl) (fun _ => rfl) ?_ ?_
    rotate_left
    focus (intro w hSw; (try dsimp only at hSw); go_split_ands; go_simp; (try with_reducible rfl))
    (try simp only [Act.put, List.setIfInBounds_toArray, List.set_cons_zero, List.set_cons_succ, Array.setIfInBounds_toArray])
    refine AnyT.take (i := 11) (v := ?_) (by decide) (by kernel_rfl) rfl (by kernel_rfl) (by kernel_rfl) (by kernel_rfl) (by kernel_rfl) (fun _ _ _ h => h) (by assumption) (by rfl) (fun _ => rfl) ?_ ?_
    rotate_left
    focus (intro w hSw; (try dsimp only at hSw); go_split_ands; go_simp; (try with_reducible rfl))
    (try simp only [Act.put, List.setIfInBounds_toArray, List.set_cons_zero, List.set_cons_succ, Array.setIfInBounds_toArray])
    refine AnyT.take (i := 12) (v := ?_) (by decide) (by kernel_rfl) rfl (by kernel_rfl) (by kernel_rfl) (by kernel_rfl) (by kernel_rfl) (fun _ _ _ h => h) (by assumption) (by rfl) (fun _ => rfl) ?_ ?_
    rotate_left
    focus (intro w hSw; (try dsimp only at hSw); go_split_ands; go_simp; (try with_reducible rfl))
    (try simp only [Act.put, List.setIfInBounds_toArray, List.set_cons_zero, List.set_cons_succ, Array.setIfInBounds_toArray])
    refine AnyT.done (by kernel_rfl) ?_ _
    gi_wp2
    refine bodyPost_ret (results_tmp4 rfl _ _ _) rfl ?_
    exact ⟨by rw [HV.out]; rfl, b1d.trans (b8.mono b1d.size)⟩
end Go.Proofs.Ytlmpooibpopcaaa
