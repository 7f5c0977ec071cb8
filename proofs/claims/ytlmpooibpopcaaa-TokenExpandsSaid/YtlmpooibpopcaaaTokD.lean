/- token.Length, Distance, LengthOf, DistanceOf. -/
import Derived.Test.YtlmpooibpopcaaaTokC
namespace Go.Proofs.Ytlmpooibpopcaaa
set_option linter.unusedSimpArgs false
set_option linter.unusedVariables false
open Go.RowKit Go.Shelf
attribute [local go_sem] Oper.semAt_some

/-- the last of some leasts that is not above a number -/
def lastN : List Nat → Nat → Nat
  | _ :: b :: r, x => if b ≤ x then lastN (b :: r) x + 1 else 0
  | _, _ => 0
theorem lastN_at : ∀ (xs : List Nat) (x : Nat), xs ≠ [] → atN xs 0 ≤ x → AtP xs x (lastN xs x)
  | [], _, h, _ => absurd rfl h
  | [a], x, _, h => ⟨by simp [lastN], by simpa [lastN] using h, by simp [lastN]⟩
  | a :: b :: r, x, _, h => by
    unfold lastN
    by_cases hb : b ≤ x
    · rw [if_pos hb]
      obtain ⟨h1, h2, h3⟩ := lastN_at (b :: r) x (by simp) (by simpa [atN] using hb)
      exact ⟨by simp at h1 ⊢; exact h1, by simpa [atN] using h2, fun h => by have := h3 (by simp at h ⊢; omega); simpa [atN] using this⟩
    · rw [if_neg hb]
      exact ⟨by simp, h, fun _ => by simp [atN]; omega⟩
def MonoN (xs : List Nat) : Prop := ∀ i j, i ≤ j → j < xs.length → atN xs i ≤ atN xs j
theorem AtP.le {xs : List Nat} {x y k l : Nat} (hm : MonoN xs) (h : AtP xs x k) (g : AtP xs y l) (hxy : x ≤ y) : k ≤ l := by
  apply Nat.le_of_not_lt
  intro hlt
  have h1 := g.2.2 (by have := h.1; omega)
  have h2 := hm (l + 1) k (by omega) h.1
  have := h.2.1
  omega
theorem AtP.unique {xs : List Nat} {x k l : Nat} (hm : MonoN xs) (h : AtP xs x k) (g : AtP xs x l) : k = l :=
  Nat.le_antisymm (h.le hm g (Nat.le_refl _)) (g.le hm h (Nat.le_refl _))
theorem MonoN.of {xs : List Nat} (h : (List.range xs.length).all (fun j => (List.range (j + 1)).all fun i => decide (atN xs i ≤ atN xs j)) = true) : MonoN xs := fun i j hij hj => by
  have h1 := List.all_eq_true.1 h j (List.mem_range.2 hj)
  have h2 := List.all_eq_true.1 h1 i (List.mem_range.2 (by omega))
  simpa using h2

def lenL : List Nat := [3, 4, 5, 6, 7, 8, 9, 10, 11, 13, 15, 17, 19, 23, 27, 31, 35, 43, 51, 59, 67, 83, 99, 115, 131, 163, 195, 227]
def lenB : List Nat := [0, 0, 0, 0, 0, 0, 0, 0, 1, 1, 1, 1, 2, 2, 2, 2, 3, 3, 3, 3, 4, 4, 4, 4, 5, 5, 5, 5]
def disL : List Nat := [1, 2, 3, 4, 5, 7, 9, 13, 17, 25, 33, 49, 65, 97, 129, 193, 257, 385, 513, 769, 1025, 1537, 2049, 3073, 4097, 6145, 8193, 12289, 16385, 24577]
def disB : List Nat := [0, 0, 0, 0, 1, 1, 2, 2, 3, 3, 4, 4, 5, 5, 6, 6, 7, 7, 8, 8, 9, 9, 10, 10, 11, 11, 12, 12, 13, 13]
theorem lenL_row : rowN (leastK 8 4 3) 28 = lenL := by decide +kernel
theorem lenB_row : rowN (bitsK 8 4) 28 = lenB := by decide +kernel
theorem disL_row : rowN (leastK 4 2 1) 30 = disL := by decide +kernel
theorem disB_row : rowN (bitsK 4 2) 30 = disB := by decide +kernel
theorem lenL_mono : MonoN lenL := MonoN.of (by decide +kernel)
theorem disL_mono : MonoN disL := MonoN.of (by decide +kernel)

abbrev Q4 := Int × Int × Int × Int
def q4 (t : Q4) : Value := .tuple #[.int .i64 t.1, .int .i64 t.2.1, .int .i64 t.2.2.1, .int .i64 t.2.2.2]
abbrev Q3 := Int × Int × Int
def q3 (t : Q3) : Value := .tuple #[.int .i64 t.1, .int .i64 t.2.1, .int .i64 t.2.2]
def lenT (n : Int) : Q4 := if n < 3 ∨ 258 < n then (0, 0, 0, 5) else if n = 258 then (285, 0, 0, 0) else
  (257 + (lastN lenL n.toNat : Int), (atN lenB (lastN lenL n.toNat) : Int), ((n.toNat - atN lenL (lastN lenL n.toNat) : Nat) : Int), 0)
def disT (n : Int) : Q4 := if n < 1 ∨ 32768 < n then (0, 0, 0, 5) else
  ((lastN disL n.toNat : Int), (atN disB (lastN disL n.toNat) : Int), ((n.toNat - atN disL (lastN disL n.toNat) : Nat) : Int), 0)
def lofT (s : Int) : Q3 := if s < 257 ∨ 285 < s then (0, 0, 5) else if s = 285 then (258, 0, 0) else ((atN lenL (s - 257).toNat : Int), (atN lenB (s - 257).toNat : Int), 0)
def dofT (s : Int) : Q3 := if s < 0 ∨ 30 ≤ s then (0, 0, 5) else ((atN disL s.toNat : Int), (atN disB s.toNat : Int), 0)

theorem results_tmp4 {fn : Func} {t u v x : Tmp} (h : fn.results = #[.tmp t, .tmp u, .tmp v, .tmp x]) (tmps : Array Value) (P : Program) (w : World) :
    (results fn tmps).run P w = .ok (.tuple #[tmps.getD t undef, tmps.getD u undef, tmps.getD v undef, tmps.getD x undef]) w := by
  simp [results, h]

theorem lenBd : ∀ k, k ≤ 28 → leastK 8 4 3 k ≤ 1000000 ∧ bitsK 8 4 k ≤ 40 ∧ 2 ^ bitsK 8 4 k ≤ 1000000000 := by decide +kernel
theorem disBd : ∀ k, k ≤ 30 → leastK 4 2 1 k ≤ 1000000 ∧ bitsK 4 2 k ≤ 40 ∧ 2 ^ bitsK 4 2 k ≤ 1000000000 := by decide +kernel

/-- collect, behind scale -/
theorem collect_scale (w : World) (n no each l0 : Nat) (xs ys : List Nat) (hx : rowN (leastK no each l0) n = xs) (hy : rowN (bitsK no each) n = ys) (hn : n ≤ 1000) (hno : no ≤ 1000) (he0 : 0 < each) (he1 : each ≤ 1000) (hbd : ∀ k, k ≤ n → leastK no each l0 k ≤ 1000000 ∧ bitsK no each k ≤ 40 ∧ 2 ^ bitsK no each k ≤ 1000000000) :
    Calls Try.prog 26 #[.func (.func 31) #[] #[.pointer (some ⟨w.heap.size, 0, none⟩), .pointer (some ⟨w.heap.size + 1, 0, none⟩), .pointer (some ⟨w.heap.size + 2, 0, none⟩), .pointer (some ⟨w.heap.size + 3, 0, none⟩)]]
    ((((w.alloc (.cells #[.int .i64 (n : Int)] 3)).alloc (.cells #[.int .i64 (no : Int)] 3)).alloc (.cells #[.int .i64 (each : Int)] 3)).alloc (.cells #[.int .i64 (l0 : Int)] 3)) fun e w' =>
      ∃ aA cA aB cB, e = .returned (.agg #[.slice aA n cA, .slice aB n cB]) ∧ Own w' 3 1 w.heap.size aA n cA (N64 xs) ∧ Own w' 3 1 w.heap.size aB n cB (N64 ys) ∧ Below w.heap.size w w' := by
  subst hx hy
  have y1 : Boxed ((((w.alloc (.cells #[.int .i64 (n : Int)] 3)).alloc (.cells #[.int .i64 (no : Int)] 3)).alloc (.cells #[.int .i64 (each : Int)] 3)).alloc (.cells #[.int .i64 (l0 : Int)] 3)) w.heap.size 3 (.int .i64 (n : Int)) := (((Boxed.new w _ _).alloc _).alloc _).alloc _
  have y2 : Boxed ((((w.alloc (.cells #[.int .i64 (n : Int)] 3)).alloc (.cells #[.int .i64 (no : Int)] 3)).alloc (.cells #[.int .i64 (each : Int)] 3)).alloc (.cells #[.int .i64 (l0 : Int)] 3)) (w.heap.size + 1) 3 (.int .i64 (no : Int)) := by
    have := ((Boxed.new (w.alloc (.cells #[.int .i64 (n : Int)] 3)) 3 (.int .i64 (no : Int))).alloc (.cells #[.int .i64 (each : Int)] 3)).alloc (.cells #[.int .i64 (l0 : Int)] 3)
    simpa only [World.size_alloc] using this
  have y3 : Boxed ((((w.alloc (.cells #[.int .i64 (n : Int)] 3)).alloc (.cells #[.int .i64 (no : Int)] 3)).alloc (.cells #[.int .i64 (each : Int)] 3)).alloc (.cells #[.int .i64 (l0 : Int)] 3)) (w.heap.size + 2) 3 (.int .i64 (each : Int)) := by
    have := (Boxed.new ((w.alloc (.cells #[.int .i64 (n : Int)] 3)).alloc (.cells #[.int .i64 (no : Int)] 3)) 3 (.int .i64 (each : Int))).alloc (.cells #[.int .i64 (l0 : Int)] 3)
    simpa only [World.size_alloc] using this
  have y4 : Boxed ((((w.alloc (.cells #[.int .i64 (n : Int)] 3)).alloc (.cells #[.int .i64 (no : Int)] 3)).alloc (.cells #[.int .i64 (each : Int)] 3)).alloc (.cells #[.int .i64 (l0 : Int)] 3)) (w.heap.size + 3) 3 (.int .i64 (l0 : Int)) := by
    have := Boxed.new (((w.alloc (.cells #[.int .i64 (n : Int)] 3)).alloc (.cells #[.int .i64 (no : Int)] 3)).alloc (.cells #[.int .i64 (each : Int)] 3)) 3 (.int .i64 (l0 : Int))
    simpa only [World.size_alloc] using this
  have bb : Below w.heap.size w ((((w.alloc (.cells #[.int .i64 (n : Int)] 3)).alloc (.cells #[.int .i64 (no : Int)] 3)).alloc (.cells #[.int .i64 (each : Int)] 3)).alloc (.cells #[.int .i64 (l0 : Int)] 3)) :=
    ((((Below.refl _ w).alloc (Nat.le_refl _) _).alloc (by simp) _).alloc (by simp; omega) _).alloc (by simp; omega) _
  refine (collect_law _ w.heap.size n no each l0 hn hno he0 he1 hbd (by simp) y1 y2 y3 y4).mono ?_
  rintro e w' ⟨aA, cA, aB, cB, rfl, oA, oB, b⟩
  exact ⟨aA, cA, aB, cB, rfl, oA, oB, bb.trans b⟩

set_option maxRecDepth 100000 in
set_option maxHeartbeats 2000000 in
theorem length_law (w : World) (n : Int) :
    Calls Try.prog 12 #[.int .i64 n] w fun e w' => e = .returned (q4 (lenT n)) ∧ Below w.heap.size w w' := by
  go_enter Try.func12, Try.ntmps12
  by_cases h : n < 3 ∨ 258 < n
  · have hq : q4 (lenT n) = .tuple #[.int .i64 0, .int .i64 0, .int .i64 0, .int .i64 5] := by rw [lenT, if_pos h]; rfl
    rw [hq]; clear hq
    by_cases h1 : n < 3
    · go_wp2_with fail
      refine bodyPost_ret (results_tmp4 rfl _ _ _) rfl ?_
      exact ⟨rfl, Below.refl _ _⟩
    · have h2 : 258 < n := by omega
      go_wp2_with fail
      refine bodyPost_ret (results_tmp4 rfl _ _ _) rfl ?_
      exact ⟨rfl, Below.refl _ _⟩
  · by_cases h3 : n = 258
    · subst h3
      have hq : q4 (lenT 258) = .tuple #[.int .i64 285, .int .i64 0, .int .i64 0, .int .i64 0] := rfl
      rw [hq]; clear hq
      go_wp2_with fail
      refine bodyPost_ret (results_tmp4 rfl _ _ _) rfl ?_
      exact ⟨rfl, Below.refl _ _⟩
    · obtain ⟨x, rfl⟩ : ∃ x : Nat, n = x := ⟨n.toNat, by omega⟩
      have hx1 : 3 ≤ x := by omega
      have hx2 : x < 258 := by omega
      have hx3 : ¬ ((x : Int) = 258) := h3
      have hq : q4 (lenT (x : Int)) = .tuple #[.int .i64 (257 + (lastN lenL x : Int)), .int .i64 (atN lenB (lastN lenL x) : Int), .int .i64 ((x - atN lenL (lastN lenL x) : Nat) : Int), .int .i64 0] := by rw [lenT, if_neg h, if_neg h3]; rfl
      have HQ := Lib.hid hq; clear hq
      clear h h3
      go_wp2_with fail
      refine (scale_any _ 28 8 4 3).mono ?_
      rintro e w' ⟨rfl, rfl⟩
      go_wp2_with fail
      refine (collect_scale w 28 8 4 3 lenL lenB lenL_row lenB_row (by decide) (by decide) (by decide) (by decide) lenBd).mono ?_
      rintro e w2 ⟨aA, cA, aB, cB, rfl, oA, oB, b2⟩
      go_wp2_with fail
      refine (find_law w2 aA aB 28 cA cB lenL lenB x oA.rd oB.rd (by decide) (by decide) (by show 3 ≤ x; exact hx1) (by omega)).mono ?_
      rintro e w3 ⟨⟨k, hk, rfl⟩, b3⟩
      obtain rfl := hk.unique lenL_mono (lastN_at lenL x (by decide) (by show 3 ≤ x; exact hx1))
      have hkb : lastN lenL x < 28 := hk.1
      have b4 : Below w.heap.size w w3 := b2.trans (b3.mono b2.size)
      clear hk
      generalize lastN lenL x = k at *
      go_wp2_with fail
      refine bodyPost_ret (results_tmp4 rfl _ _ _) rfl ?_
      exact ⟨by rw [HQ.out]; rfl, b4⟩

set_option maxRecDepth 100000 in
set_option maxHeartbeats 2000000 in
theorem distance_law (w : World) (n : Int) :
    Calls Try.prog 13 #[.int .i64 n] w fun e w' => e = .returned (q4 (disT n)) ∧ Below w.heap.size w w' := by
  go_enter Try.func13, Try.ntmps13
  by_cases h : n < 1 ∨ 32768 < n
  · have hq : q4 (disT n) = .tuple #[.int .i64 0, .int .i64 0, .int .i64 0, .int .i64 5] := by rw [disT, if_pos h]; rfl
    rw [hq]; clear hq
    by_cases h1 : n < 1
    · go_wp2_with fail
      refine bodyPost_ret (results_tmp4 rfl _ _ _) rfl ?_
      exact ⟨rfl, Below.refl _ _⟩
    · have h2 : 32768 < n := by omega
      go_wp2_with fail
      refine bodyPost_ret (results_tmp4 rfl _ _ _) rfl ?_
      exact ⟨rfl, Below.refl _ _⟩
  · obtain ⟨x, rfl⟩ : ∃ x : Nat, n = x := ⟨n.toNat, by omega⟩
    have hx1 : 1 ≤ x := by omega
    have hx2 : x ≤ 32768 := by omega
    have hq : q4 (disT (x : Int)) = .tuple #[.int .i64 (lastN disL x : Int), .int .i64 (atN disB (lastN disL x) : Int), .int .i64 ((x - atN disL (lastN disL x) : Nat) : Int), .int .i64 0] := by rw [disT, if_neg h]; rfl
    have HQ := Lib.hid hq; clear hq
    clear h
    go_wp2_with fail
    refine (scale_any _ 30 4 2 1).mono ?_
    rintro e w' ⟨rfl, rfl⟩
    go_wp2_with fail
    refine (collect_scale w 30 4 2 1 disL disB disL_row disB_row (by decide) (by decide) (by decide) (by decide) disBd).mono ?_
    rintro e w2 ⟨aA, cA, aB, cB, rfl, oA, oB, b2⟩
    go_wp2_with fail
    refine (find_law w2 aA aB 30 cA cB disL disB x oA.rd oB.rd (by decide) (by decide) (by show 1 ≤ x; exact hx1) (by omega)).mono ?_
    rintro e w3 ⟨⟨k, hk, rfl⟩, b3⟩
    obtain rfl := hk.unique disL_mono (lastN_at disL x (by decide) (by show 1 ≤ x; exact hx1))
    have hkb : lastN disL x < 30 := hk.1
    have b4 : Below w.heap.size w w3 := b2.trans (b3.mono b2.size)
    clear hk
    generalize lastN disL x = k at *
    go_wp2_with fail
    refine bodyPost_ret (results_tmp4 rfl _ _ _) rfl ?_
    exact ⟨by rw [HQ.out]; rfl, b4⟩

set_option maxRecDepth 100000 in
set_option maxHeartbeats 2000000 in
theorem lengthOf_law (w : World) (n : Int) :
    Calls Try.prog 16 #[.int .i64 n] w fun e w' => e = .returned (q3 (lofT n)) ∧ Below w.heap.size w w' := by
  go_enter Try.func16, Try.ntmps16
  by_cases h : n < 257 ∨ 285 < n
  · have hq : q3 (lofT n) = .tuple #[.int .i64 0, .int .i64 0, .int .i64 5] := by rw [lofT, if_pos h]; rfl
    rw [hq]; clear hq
    by_cases h1 : n < 257
    · go_wp2_with fail
      refine bodyPost_ret (results_tmp3 rfl _ _ _) rfl ?_
      exact ⟨rfl, Below.refl _ _⟩
    · have h2 : 285 < n := by omega
      go_wp2_with fail
      refine bodyPost_ret (results_tmp3 rfl _ _ _) rfl ?_
      exact ⟨rfl, Below.refl _ _⟩
  · by_cases h3 : n = 285
    · subst h3
      have hq : q3 (lofT 285) = .tuple #[.int .i64 258, .int .i64 0, .int .i64 0] := rfl
      rw [hq]; clear hq
      go_wp2_with fail
      refine bodyPost_ret (results_tmp3 rfl _ _ _) rfl ?_
      exact ⟨rfl, Below.refl _ _⟩
    · obtain ⟨x, rfl⟩ : ∃ x : Nat, n = x + 257 := ⟨(n - 257).toNat, by omega⟩
      have hx2 : x < 28 := by omega
      have hx3 : ¬ ((x : Int) + 257 = 285) := h3
      have hx4 : ¬ ((x : Int) + 257 < 257) := by omega
      have hx5 : ¬ (285 < (x : Int) + 257) := by omega
      have hx6 : (x : Int) + 257 - 257 = (x : Int) := by omega
      have hq : q3 (lofT ((x : Int) + 257)) = .tuple #[.int .i64 (atN lenL x : Int), .int .i64 (atN lenB x : Int), .int .i64 0] := by rw [lofT, if_neg h, if_neg h3, hx6]; rfl
      have HQ := Lib.hid hq; clear hq
      have H6 := Lib.hid hx6; clear hx6
      clear h h3
      go_wp2_with fail
      refine (scale_any _ 28 8 4 3).mono ?_
      rintro e w' ⟨rfl, rfl⟩
      go_wp2_with fail
      refine (collect_scale w 28 8 4 3 lenL lenB lenL_row lenB_row (by decide) (by decide) (by decide) (by decide) lenBd).mono ?_
      rintro e w2 ⟨aA, cA, aB, cB, rfl, oA, oB, b2⟩
      have q0 : ((w2.alloc (.cells #[.slice aA 28 cA, .slice aB 28 cB] 46))).heap[w2.heap.size]? = some (.cells #[.slice aA 28 cA, .slice aB 28 cB] 46 (0, 0)) := World.alloc_heap_new w2 _
      go_upto_region 6 with fail
      have b3 : Below w.heap.size w (w2.alloc (.cells #[.slice aA 28 cA, .slice aB 28 cB] 46)) := b2.alloc b2.size _
      have rA := (oA.alloc (.cells #[.slice aA 28 cA, .slice aB 28 cB] 46)).rd
      have rB := (oB.alloc (.cells #[.slice aA 28 cA, .slice aB 28 cB] 46)).rd
      have o := ownTwo q0 w2.heap.size (Nat.le_refl _) rfl rfl
      generalize (w2.alloc (.cells #[.slice aA 28 cA, .slice aB 28 cB] 46)) = w3 at *
      generalize w2.heap.size = Z at *
      have d0 := (o.read (j := 0) (u := .slice aA 28 cA) rfl).1
      have d1 := (o.read (j := 1) (u := .slice aB 28 cB) rfl).1
      obtain ⟨nA, eA⟩ := rA.getN (k := x) hx2
      obtain ⟨nB, eB⟩ := rB.getN (k := x) hx2
      clear o q0 b2 rA rB oA oB
      generalize atN lenL x = y at *
      generalize atN lenB x = z at *
      (try simp only [List.append])
      refine wp_region_quiet_lit (by kernel_rfl) (by kernel_rfl) ?_
      repeat (go_big_quiet_step (fail))
      refine wpQuiet_nil ?_
      intro _ hw'
      obtain ⟨nq, hw''⟩ := hw'
      subst hw''
      go_wp2_with fail
      refine bodyPost_ret (results_tmp3 rfl _ _ _) rfl ?_
      exact ⟨by rw [HQ.out]; rfl, bDraws b3 nq⟩

set_option maxRecDepth 100000 in
set_option maxHeartbeats 2000000 in
theorem distanceOf_law (w : World) (n : Int) :
    Calls Try.prog 19 #[.int .i64 n] w fun e w' => e = .returned (q3 (dofT n)) ∧ Below w.heap.size w w' := by
  go_enter Try.func19, Try.ntmps19
  by_cases h : n < 0 ∨ 30 ≤ n
  · have hq : q3 (dofT n) = .tuple #[.int .i64 0, .int .i64 0, .int .i64 5] := by rw [dofT, if_pos h]; rfl
    rw [hq]; clear hq
    by_cases h1 : n < 0
    · go_wp2_with fail
      refine bodyPost_ret (results_tmp3 rfl _ _ _) rfl ?_
      exact ⟨rfl, Below.refl _ _⟩
    · have h2 : 30 ≤ n := by omega
      go_wp2_with fail
      refine bodyPost_ret (results_tmp3 rfl _ _ _) rfl ?_
      exact ⟨rfl, Below.refl _ _⟩
  · obtain ⟨x, rfl⟩ : ∃ x : Nat, n = x := ⟨n.toNat, by omega⟩
    have hx2 : x < 30 := by omega
    have hq : q3 (dofT (x : Int)) = .tuple #[.int .i64 (atN disL x : Int), .int .i64 (atN disB x : Int), .int .i64 0] := by rw [dofT, if_neg h]; rfl
    have HQ := Lib.hid hq; clear hq
    clear h
    · go_wp2_with fail
      refine (scale_any _ 30 4 2 1).mono ?_
      rintro e w' ⟨rfl, rfl⟩
      go_wp2_with fail
      refine (collect_scale w 30 4 2 1 disL disB disL_row disB_row (by decide) (by decide) (by decide) (by decide) disBd).mono ?_
      rintro e w2 ⟨aA, cA, aB, cB, rfl, oA, oB, b2⟩
      have q0 : ((w2.alloc (.cells #[.slice aA 30 cA, .slice aB 30 cB] 46))).heap[w2.heap.size]? = some (.cells #[.slice aA 30 cA, .slice aB 30 cB] 46 (0, 0)) := World.alloc_heap_new w2 _
      go_upto_region 4 with fail
      have b3 : Below w.heap.size w (w2.alloc (.cells #[.slice aA 30 cA, .slice aB 30 cB] 46)) := b2.alloc b2.size _
      have rA := (oA.alloc (.cells #[.slice aA 30 cA, .slice aB 30 cB] 46)).rd
      have rB := (oB.alloc (.cells #[.slice aA 30 cA, .slice aB 30 cB] 46)).rd
      have o := ownTwo q0 w2.heap.size (Nat.le_refl _) rfl rfl
      generalize (w2.alloc (.cells #[.slice aA 30 cA, .slice aB 30 cB] 46)) = w3 at *
      generalize w2.heap.size = Z at *
      have d0 := (o.read (j := 0) (u := .slice aA 30 cA) rfl).1
      have d1 := (o.read (j := 1) (u := .slice aB 30 cB) rfl).1
      obtain ⟨nA, eA⟩ := rA.getN (k := x) hx2
      obtain ⟨nB, eB⟩ := rB.getN (k := x) hx2
      clear o q0 b2 rA rB oA oB
      generalize atN disL x = y at *
      generalize atN disB x = z at *
      (try simp only [List.append])
      refine wp_region_quiet_lit (by kernel_rfl) (by kernel_rfl) ?_
      repeat (go_big_quiet_step (fail))
      refine wpQuiet_nil ?_
      intro _ hw'
      obtain ⟨nq, hw''⟩ := hw'
      subst hw''
      go_wp2_with fail
      refine bodyPost_ret (results_tmp3 rfl _ _ _) rfl ?_
      exact ⟨by rw [HQ.out]; rfl, bDraws b3 nq⟩
end Go.Proofs.Ytlmpooibpopcaaa
