/- token.collect: the loop over the iterator. -/
import Derived.Test.YtlmpooibpopcaaaTokA
import Derived.Test.YtlmpooibpopcaaaTwo
namespace Go.Proofs.Ytlmpooibpopcaaa
set_option linter.unusedSimpArgs false
set_option linter.unusedVariables false
open Go.RowKit Go.Shelf
attribute [local go_sem] Oper.semAt_some

theorem scale_any (w : World) (a b c d : Int) :
    Calls Try.prog 27 #[.int .i64 a, .int .i64 b, .int .i64 c, .int .i64 d] w fun e w' => e = .returned (.func (.func 31) #[] #[.pointer (some ⟨w.heap.size, 0, none⟩), .pointer (some ⟨w.heap.size + 1, 0, none⟩), .pointer (some ⟨w.heap.size + 2, 0, none⟩), .pointer (some ⟨w.heap.size + 3, 0, none⟩)]) ∧
      (((w.alloc (.cells #[.int .i64 a] 3)).alloc (.cells #[.int .i64 b] 3)).alloc (.cells #[.int .i64 c] 3)).alloc (.cells #[.int .i64 d] 3) = w' := by
  go_enter Try.func27, Try.ntmps27
  go_wp2
  go_ret
  exact ⟨rfl, rfl⟩

theorem scale_seq (m B n no each l0 : Nat) (hm : 1 ≤ m) (hn : n ≤ 1000) (hno : no ≤ 1000) (he0 : 0 < each) (he1 : each ≤ 1000) (hbd : ∀ k, k ≤ n → leastK no each l0 k ≤ 1000000 ∧ bitsK no each k ≤ 40 ∧ 2 ^ bitsK no each k ≤ 1000000000) (w : World)
    (h1 : Boxed w B 3 (.int .i64 (n : Int))) (h2 : Boxed w (B + 1) 3 (.int .i64 (no : Int))) (h3 : Boxed w (B + 2) 3 (.int .i64 (each : Int))) (h4 : Boxed w (B + 3) 3 (.int .i64 (l0 : Int))) :
    SeqN Fence.wide m Try.prog 31 #[.pointer (some ⟨B, 0, none⟩), .pointer (some ⟨B + 1, 0, none⟩), .pointer (some ⟨B + 2, 0, none⟩), .pointer (some ⟨B + 3, 0, none⟩)] (scE no each l0) (fun r => B ≤ r ∧ r < B + 4) (fun r => r = B + 3) n w :=
  fun l J Jx W hW _ hJ _ hY h0 => scale1_in m l B n no each l0 hm hn hno he0 he1 hbd J Jx hJ hY W ((hW.block _ h1.lt).trans h1) ((hW.block _ h2.lt).trans h2) ((hW.block _ h3.lt).trans h3) ((hW.block _ h4.lt).trans h4) h0

theorem results_cell1 {fn : Func} {p : Tmp} {ty : TypeId} (h : fn.results = #[.cell p ty]) (tmps : Array Value) (P : Program) (w : World) :
    (results fn tmps).run P w = ((asAddr (tmps.getD p undef)).run P w).andThen fun a w₁ => (loadVar ty a).run P w₁ := by
  simp only [results, h]
  simp [Sem.run_bind, Result.andThen]

theorem ownTwo {w : World} {g : Nat} {t : TypeId} {a b : Value} (hg : w.heap[g]? = some (.cells #[a, b] t (0, 0))) (lo : Nat) (hlo : lo ≤ g) (ha : a.oneCell' = true) (hb : b.oneCell' = true) : Own w t 1 lo (some ⟨g, 0, none⟩) 2 2 [a, b] :=
  ⟨⟨by simp, .inr ⟨g, 2, #[a, b], rfl, hlo, hg, Nat.le_refl _, by decide, by simp, by simp⟩⟩, fun u hu => by simp at hu; rcases hu with rfl | rfl <;> assumption⟩

set_option maxRecDepth 100000 in
set_option maxHeartbeats 4000000 in
theorem collect_law (w : World) (B n no each l0 : Nat) (hn : n ≤ 1000) (hno : no ≤ 1000) (he0 : 0 < each) (he1 : each ≤ 1000) (hbd : ∀ k, k ≤ n → leastK no each l0 k ≤ 1000000 ∧ bitsK no each k ≤ 40 ∧ 2 ^ bitsK no each k ≤ 1000000000) (hBw : B + 4 ≤ w.heap.size)
    (h1 : Boxed w B 3 (.int .i64 (n : Int))) (h2 : Boxed w (B + 1) 3 (.int .i64 (no : Int))) (h3 : Boxed w (B + 2) 3 (.int .i64 (each : Int))) (h4 : Boxed w (B + 3) 3 (.int .i64 (l0 : Int))) :
    Calls Try.prog 26 #[.func (.func 31) #[] #[.pointer (some ⟨B, 0, none⟩), .pointer (some ⟨B + 1, 0, none⟩), .pointer (some ⟨B + 2, 0, none⟩), .pointer (some ⟨B + 3, 0, none⟩)]] w fun e w' =>
      ∃ aA cA aB cB, e = .returned (.agg #[.slice aA n cA, .slice aB n cB]) ∧ Own w' 3 1 B aA n cA (N64 (rowN (leastK no each l0) n)) ∧ Own w' 3 1 B aB n cB (N64 (rowN (bitsK no each) n)) ∧ Below B w w' := by
  have hseq := scale_seq 8 B n no each l0 (by omega) hn hno he0 he1 hbd w h1 h2 h3 h4
  clear h1 h2 h3 h4 hbd hno he0 he1
  refine (callsIn_wide (n := 9)).1 ?_
  refine callsIn_of_wp_marks Try.func26 rfl trivial ?_ rfl
  simp only [Try.ntmps26, List.size_toArray, List.length_cons, List.length_nil, Nat.reduceAdd, Nat.reduceSub, Array.replicate_succ, Array.replicate_zero, List.push_toArray, List.append_toArray, List.nil_append, List.cons_append]
  have hz : ∀ w : World, (zeroValue 46).run Try.prog w = .ok (.agg #[.slice none 0 0, .slice none 0 0]) w := fun w => by kernel_rfl
  gi_wp2
  obtain ⟨Z, hZ⟩ : ∃ Z, w.heap.size = Z := ⟨_, rfl⟩
  have q0 : ((w.alloc (.cells #[.slice none 0 0, .slice none 0 0] 46)).alloc (.cells #[.slice none 0 0, .slice none 0 0] 46)).heap[Z]? = some (.cells #[.slice none 0 0, .slice none 0 0] 46 (0, 0)) := by
    rw [← hZ]; exact (Below.heap_alloc _ _ _ (by simp)).trans (World.alloc_heap_new w _)
  have q1 : ((w.alloc (.cells #[.slice none 0 0, .slice none 0 0] 46)).alloc (.cells #[.slice none 0 0, .slice none 0 0] 46)).heap[Z + 1]? = some (.cells #[.slice none 0 0, .slice none 0 0] 46 (0, 0)) := by
    have := World.alloc_heap_new (w.alloc (.cells #[.slice none 0 0, .slice none 0 0] 46)) (.cells #[.slice none 0 0, .slice none 0 0] 46)
    rwa [World.size_alloc, hZ] at this
  have c5 : Below w.heap.size w ((w.alloc (.cells #[.slice none 0 0, .slice none 0 0] 46)).alloc (.cells #[.slice none 0 0, .slice none 0 0] 46)) := ((Below.refl _ w).alloc (Nat.le_refl _) _).alloc (by simp) _
  have s5 : ((w.alloc (.cells #[.slice none 0 0, .slice none 0 0] 46)).alloc (.cells #[.slice none 0 0, .slice none 0 0] 46)).heap.size = Z + 2 := by simp [hZ]
  rw [hZ]
  generalize ((w.alloc (.cells #[.slice none 0 0, .slice none 0 0] 46)).alloc (.cells #[.slice none 0 0, .slice none 0 0] 46)) = w5 at *
  have o0 := ownTwo q0 Z (Nat.le_refl _) rfl rfl
  have o1 := ownTwo q1 Z (Nat.le_succ _) rfl rfl
  have cB := c5.mono (show B ≤ w.heap.size by omega)
  rw [hZ] at hBw
  clear q0 q1
  refine wpIn_rangeN rfl (by omega) (gf := 31) (lb := #[.pointer (some ⟨B, 0, none⟩), .pointer (some ⟨B + 1, 0, none⟩), .pointer (some ⟨B + 2, 0, none⟩), .pointer (some ⟨B + 3, 0, none⟩)]) rfl trivial (enters_of Try.func31 (by kernel_rfl) rfl) hseq
    (fun r hr => by omega) (fun r hr => by omega) c5 (fun _ => rfl)
    (fun k W => Below B w W ∧ Own W 46 1 Z (some ⟨Z, 0, none⟩) 2 2 [.slice none 0 0, .slice none 0 0] ∧ ∃ aA cA aB cB, Own W 46 1 Z (some ⟨Z + 1, 0, none⟩) 2 2 [.slice aA k cA, .slice aB k cB] ∧ Own W 3 1 (Z + 2) aA k cA (N64 (rowN (leastK no each l0) k)) ∧ Own W 3 1 (Z + 2) aB k cB (N64 (rowN (bitsK no each) k)) ∧ Apart aA aB ∧ Z + 2 ≤ W.heap.size)
    (fun _ _ _ => False) ?hI (fun _ _ _ _ _ hs _ _ => hs.elim) ?h0
    (fun k => { tmps := #[.func (.func 31) #[] #[.pointer (some ⟨B, 0, none⟩), .pointer (some ⟨B + 1, 0, none⟩), .pointer (some ⟨B + 2, 0, none⟩), .pointer (some ⟨B + 3, 0, none⟩)], undef, .pointer (some ⟨Z, 0, none⟩), .pointer (some ⟨Z + 1, 0, none⟩), .int .i64 ((leastK no each l0 k : Nat) : Int), .int .i64 ((bitsK no each k : Nat) : Int), .func (.func 31) #[] #[.pointer (some ⟨B, 0, none⟩), .pointer (some ⟨B + 1, 0, none⟩), .pointer (some ⟨B + 2, 0, none⟩), .pointer (some ⟨B + 3, 0, none⟩)], .int .i64 ((leastK no each l0 k : Nat) : Int), .int .i64 ((bitsK no each k : Nat) : Int), undef, undef, undef, undef, undef, undef, undef, undef, undef, undef, undef, undef, undef], defers := [] })
    ?assign ?body ?done ?stop
  case hI =>
    rintro k W W' row ⟨i1, i2, aA, cA, aB, cB', i3, i4, i5, i6, i7⟩ hgr hr
    exact ⟨Abide.below (B := w5.heap.size) (wr := fun r => r = B + 3) (by omega) (by omega) (fun r hr => by omega) k W W' row i1 hgr hr, i2.abide hgr hr (fun g hg => by simp at hg; omega), aA, cA, aB, cB', i3.abide hgr hr (fun g hg => by simp at hg; omega),
      i4.abide hgr hr (fun g hg => by have := (i4.blk hg).1; omega), i5.abide hgr hr (fun g hg => by have := (i5.blk hg).1; omega), i6, Nat.le_trans i7 hgr.size⟩
  case h0 => exact ⟨cB, o0, none, 0, none, 0, o1, by simp [rowN, N64]; exact Own.nil _ _ _ _, by simp [rowN, N64]; exact Own.nil _ _ _ _, Apart.none_left _, by omega⟩
  case assign =>
    intro l k W K hK
    dsimp only [scE]
    gi_wp2
    exact hK
  case body =>
    rintro l k W ⟨i1, i2, aA, cA, aB, cB', i3, i4, i5, i6, i7⟩ hk
    have rs1 := rowN_succ (leastK no each l0) k
    have rs2 := rowN_succ (bitsK no each) k
    obtain ⟨p, hp⟩ : ∃ p, leastK no each l0 k = p := ⟨_, rfl⟩
    obtain ⟨q, hq⟩ : ∃ q, bitsK no each k = q := ⟨_, rfl⟩
    rw [hp] at rs1 ⊢
    rw [hq] at rs2 ⊢
    clear hp hq
    have RS1 := Lib.hid rs1; clear rs1
    have RS2 := Lib.hid rs2; clear rs2
    have i3d := i3.drew
    have i7d : Z + 2 ≤ W.drew.heap.size := i7
    have e1 : k + 1 ≤ maxLen := by unfold maxLen; omega
    have e2 : (k + 1) * 8 ≤ 140737488355328 := by omega
    have x1 := both1 (P := Try.prog) tI 37 37 i4.drew i5.drew i6 (p := .int .i64 (p : Int)) (q := .int .i64 (q : Int)) rfl rfl e1 e2 i7d
    have x2 := both2 (P := Try.prog) tI 37 37 i4.drew i5.drew i6 (p := .int .i64 (p : Int)) (q := .int .i64 (q : Int)) rfl rfl e1 e2 i7d
    have x3 := both3 (P := Try.prog) tI 37 37 i4.drew i5.drew i6 (p := .int .i64 (p : Int)) (q := .int .i64 (q : Int)) rfl rfl e1 e2 i7d
    have X1 := Lib.hid x1; clear x1
    have X2 := Lib.hid x2; clear x2
    have X3 := Lib.hid x3; clear x3
    have c0 := (i3d.read (j := 0) (u := .slice aA k cA) rfl).1
    have c1 := (i3d.read (j := 1) (u := .slice aB k cB') rfl).1
    have hkeep : ∀ (W' : World) (j : Nat), Below (Z + 2) W.drew W' → W'.cell? ⟨Z + 1, j, none⟩ = W.drew.cell? ⟨Z + 1, j, none⟩ := fun W' j h => h.cell (p := ⟨Z + 1, j, none⟩) (by simp)
    have HKP := Lib.hid hkeep; clear hkeep
    have fin : ∀ W4 a1 c1 a2 c2, Both W.drew W4 3 (Z + 2) a1 a2 k c1 c2 (N64 (rowN (leastK no each l0) k) ++ [.int .i64 (p : Int)]) (N64 (rowN (bitsK no each) k) ++ [.int .i64 (q : Int)]) →
        KeepsFrom w5.heap.size W ((W4.setCell ⟨Z + 1, 0, none⟩ (.slice a1 (k + 1) c1)).setCell ⟨Z + 1, 1, none⟩ (.slice a2 (k + 1) c2)) ∧ KeepB (fun r => B ≤ r ∧ r < B + 4) W ((W4.setCell ⟨Z + 1, 0, none⟩ (.slice a1 (k + 1) c1)).setCell ⟨Z + 1, 1, none⟩ (.slice a2 (k + 1) c2)) ∧
        (Below B w ((W4.setCell ⟨Z + 1, 0, none⟩ (.slice a1 (k + 1) c1)).setCell ⟨Z + 1, 1, none⟩ (.slice a2 (k + 1) c2)) ∧ Own ((W4.setCell ⟨Z + 1, 0, none⟩ (.slice a1 (k + 1) c1)).setCell ⟨Z + 1, 1, none⟩ (.slice a2 (k + 1) c2)) 46 1 Z (some ⟨Z, 0, none⟩) 2 2 [.slice none 0 0, .slice none 0 0] ∧
          ∃ aA cA aB cB, Own ((W4.setCell ⟨Z + 1, 0, none⟩ (.slice a1 (k + 1) c1)).setCell ⟨Z + 1, 1, none⟩ (.slice a2 (k + 1) c2)) 46 1 Z (some ⟨Z + 1, 0, none⟩) 2 2 [.slice aA (k + 1) cA, .slice aB (k + 1) cB] ∧ Own ((W4.setCell ⟨Z + 1, 0, none⟩ (.slice a1 (k + 1) c1)).setCell ⟨Z + 1, 1, none⟩ (.slice a2 (k + 1) c2)) 3 1 (Z + 2) aA (k + 1) cA (N64 (rowN (leastK no each l0) (k + 1))) ∧
            Own ((W4.setCell ⟨Z + 1, 0, none⟩ (.slice a1 (k + 1) c1)).setCell ⟨Z + 1, 1, none⟩ (.slice a2 (k + 1) c2)) 3 1 (Z + 2) aB (k + 1) cB (N64 (rowN (bitsK no each) (k + 1))) ∧ Apart aA aB ∧ Z + 2 ≤ ((W4.setCell ⟨Z + 1, 0, none⟩ (.slice a1 (k + 1) c1)).setCell ⟨Z + 1, 1, none⟩ (.slice a2 (k + 1) c2)).heap.size) := by
      rintro W4 a1 c1 a2 c2 ⟨oA, oB, ap, bb, kk⟩
      have m0 := i2.drew.keep (w' := W4) fun g hg => by cases hg; exact bb.block Z (by omega)
      have m1 := i3d.keep (w' := W4) fun g hg => by cases hg; exact bb.block (Z + 1) (by omega)
      have m2 := (m1.set 0 (.slice a1 (k + 1) c1) rfl).set 1 (.slice a2 (k + 1) c2) rfl
      refine ⟨((((KeepsOthers.drew W).trans kk).trans (KeepsOthers.setCell _ _ _)).trans (KeepsOthers.setCell _ _ _)).from _, fun r hr => ?_, (((i1.drew).trans (bb.mono (by omega))).setCell (by simp; omega) _).setCell (by simp; omega) _, (m0.setOther _ _ (fun g hg => by cases hg; simp)).setOther _ _ (fun g hg => by cases hg; simp),
        a1, c1, a2, c2, m2, ?_, ?_, ap, by simpa using Nat.le_trans i7d bb.size⟩
      · rw [Below.heap_setCell _ _ _ r (by simp; omega), Below.heap_setCell _ _ _ r (by simp; omega)]
        exact bb.block r (by omega)
      · rw [RS1.out, ← N64_app]
        exact (oA.setOther _ _ (fun g hg => by have := (oA.blk hg).1; simp; omega)).setOther _ _ (fun g hg => by have := (oA.blk hg).1; simp; omega)
      · rw [RS2.out, ← N64_app]
        exact (oB.setOther _ _ (fun g hg => by have := (oB.blk hg).1; simp; omega)).setOther _ _ (fun g hg => by have := (oB.blk hg).1; simp; omega)
    have END := Lib.hid fin; clear fin
    have sf : ∀ W', Below (Z + 2) W.drew W' → W'.cell? ⟨Z + 1, 0, none⟩ = some (.slice aA k cA) ∧ W'.cell? ⟨Z + 1, 1, none⟩ = some (.slice aB k cB') := fun W' h => ⟨(HKP.out W' 0 h).trans c0, (HKP.out W' 1 h).trans c1⟩
    have SF := Lib.hid sf; clear sf
    have b0 : Below (Z + 2) W.drew W.drew := Below.refl _ _
    have bA := b0.alloc i7d (.cells #[.int .i64 (p : Int)] 3)
    have bB := b0.alloc i7d (.cells #[.int .i64 (q : Int)] 3)
    have bAB := bA.alloc (by simp; omega) (.cells #[.int .i64 (q : Int)] 3)
    have bBA := bB.alloc (by simp; omega) (.cells #[.int .i64 (p : Int)] 3)
    have st : ∀ W', Below (Z + 2) W.drew W' → (W'.cell? ⟨Z + 1, 0, none⟩ = some (.slice aA k cA) ∧ W'.frozen? ⟨Z + 1, 0, none⟩ = false) ∧ ∀ a1 c1, ((W'.setCell ⟨Z + 1, 0, none⟩ (.slice a1 (k + 1) c1)).cell? ⟨Z + 1, 1, none⟩ = some (.slice aB k cB') ∧ (W'.setCell ⟨Z + 1, 0, none⟩ (.slice a1 (k + 1) c1)).frozen? ⟨Z + 1, 1, none⟩ = false) := fun W' h => by
      have m1 := i3d.keep (w' := W') fun g hg => by cases hg; exact h.block (Z + 1) (by omega)
      exact ⟨m1.read rfl, fun a1 c1 => (m1.set 0 (.slice a1 (k + 1) c1) rfl).read rfl⟩
    have ST := Lib.hid st; clear st
    clear i1 i2 i3 i4 i5 i6 i7 i3d
    gi_wp2_with fail
    refine regionT [0, 1, 2, 5, 6, 7, 10] (fun w' => w'.cell? ⟨Z + 1, 0, none⟩ = some (.slice aA k cA) ∧ w'.cell? ⟨Z + 1, 1, none⟩ = some (.slice aB k cB')) (by kernel_rfl) ?_
    have hSS : (fun w' : World => w'.cell? ⟨Z + 1, 0, none⟩ = some (.slice aA k cA) ∧ w'.cell? ⟨Z + 1, 1, none⟩ = some (.slice aB k cB')) W.drew := ⟨c0, c1⟩
    refine AnyT.take (i := 0) (v := ?_) (by decide) (by kernel_rfl) rfl (by kernel_rfl) (by kernel_rfl) (by kernel_rfl) (by kernel_rfl) (fun _ _ _ h => h) (by assumption) (by rfl) (fun _ => rfl) ?_ ?_
    rotate_left
    focus (intro w hSw; (try dsimp only at hSw); go_split_ands; go_simp; (try with_reducible rfl))
    (try simp only [Act.put, List.setIfInBounds_toArray, List.set_cons_zero, List.set_cons_succ, Array.setIfInBounds_toArray])
    refine AnyT.take (i := 1) (v := ?_) (by decide) (by kernel_rfl) rfl (by kernel_rfl) (by kernel_rfl) (by kernel_rfl) (by kernel_rfl) (fun _ _ _ h => h) (by assumption) (by rfl) (fun _ => rfl) ?_ ?_
    rotate_left
    focus (intro w hSw; (try dsimp only at hSw); go_split_ands; go_simp; (try with_reducible rfl))
    (try simp only [Act.put, List.setIfInBounds_toArray, List.set_cons_zero, List.set_cons_succ, Array.setIfInBounds_toArray])
    refine AnyT.take (i := 2) (v := ?_) (by decide) (by kernel_rfl) rfl (by kernel_rfl) (by kernel_rfl) (by kernel_rfl) (by kernel_rfl) (fun _ _ _ h => h) (by assumption) (by rfl) (fun _ => rfl) ?_ ?_
    rotate_left
    focus (intro w hSw; (try dsimp only at hSw); go_split_ands; go_simp; (try with_reducible rfl))
    (try simp only [Act.put, List.setIfInBounds_toArray, List.set_cons_zero, List.set_cons_succ, Array.setIfInBounds_toArray])
    refine AnyT.take (i := 5) (v := ?_) (by decide) (by kernel_rfl) rfl (by kernel_rfl) (by kernel_rfl) (by kernel_rfl) (by kernel_rfl) (fun _ _ _ h => h) (by assumption) (by rfl) (fun _ => rfl) ?_ ?_
    rotate_left
    focus (intro w hSw; (try dsimp only at hSw); go_split_ands; go_simp; (try with_reducible rfl))
    (try simp only [Act.put, List.setIfInBounds_toArray, List.set_cons_zero, List.set_cons_succ, Array.setIfInBounds_toArray])
    refine AnyT.take (i := 6) (v := ?_) (by decide) (by kernel_rfl) rfl (by kernel_rfl) (by kernel_rfl) (by kernel_rfl) (by kernel_rfl) (fun _ _ _ h => h) (by assumption) (by rfl) (fun _ => rfl) ?_ ?_
    rotate_left
    focus (intro w hSw; (try dsimp only at hSw); go_split_ands; go_simp; (try with_reducible rfl))
    (try simp only [Act.put, List.setIfInBounds_toArray, List.set_cons_zero, List.set_cons_succ, Array.setIfInBounds_toArray])
    refine AnyT.take (i := 7) (v := ?_) (by decide) (by kernel_rfl) rfl (by kernel_rfl) (by kernel_rfl) (by kernel_rfl) (by kernel_rfl) (fun _ _ _ h => h) (by assumption) (by rfl) (fun _ => rfl) ?_ ?_
    rotate_left
    focus (intro w hSw; (try dsimp only at hSw); go_split_ands; go_simp; (try with_reducible rfl))
    (try simp only [Act.put, List.setIfInBounds_toArray, List.set_cons_zero, List.set_cons_succ, Array.setIfInBounds_toArray])
    refine AnyT.two (i := 3) (j := 8) (by kernel_rfl) rfl rfl (by rfl) (by rfl) (fun K hK => ?_) (fun K hK => ?_)
    focus
      go_simp
      refine hK.out _ _ (fun _ => SF.out _ bA) ?_
      clear hK K
      refine AnyT.two (i := 4) (j := 8) (by kernel_rfl) rfl rfl (by rfl) (by rfl) (fun K hK => ?_) (fun K hK => ?_)
      focus
        obtain ⟨a1, c1, W2, a2, c2, W4, r1, r2, bW, hb⟩ := X1.out
        have hSS := SF.out _ bW
        have hSS' : (fun w' : World => w'.cell? ⟨Z + 1, 0, none⟩ = some (.slice aA k cA) ∧ w'.cell? ⟨Z + 1, 1, none⟩ = some (.slice aB k cB')) W2 := hSS
        refine wpIn_run1 (fun _ => trivial) (fun c hc => by cases hc) (exec_append rfl rfl rfl r1) ?_
        refine hK.out _ _ (fun _ => hSS) ?_
        clear hK K
        (try simp only [Act.put, List.setIfInBounds_toArray, List.set_cons_zero, List.set_cons_succ, Array.setIfInBounds_toArray])
        refine AnyT.take (i := 10) (v := ?_) (by decide) (by kernel_rfl) rfl (by kernel_rfl) (by kernel_rfl) (by kernel_rfl) (by kernel_rfl) (fun _ _ _ h => h) (by assumption) (by rfl) (fun _ => rfl) ?_ ?_
        rotate_left
        focus (intro w hSw; (try dsimp only at hSw); go_split_ands; go_simp; (try with_reducible rfl))
        (try simp only [Act.put, List.setIfInBounds_toArray, List.set_cons_zero, List.set_cons_succ, Array.setIfInBounds_toArray])
        refine AnyT.only (i := 8) (by kernel_rfl) rfl (by rfl) (fun K hK => ?_)
        go_simp
        refine hK.out _ _ (fun _ => SF.out _ (bW.alloc (Nat.le_trans i7d bW.size) _)) ?_
        clear hK K
        refine AnyT.only (i := 9) (by kernel_rfl) rfl (by rfl) (fun K hK => ?_)
        refine wpIn_run1 (fun _ => trivial) (fun c hc => by cases hc) (exec_append rfl rfl rfl r2) ?_
        refine hK.out _ _ (fun _ => SF.out _ hb.2.2.2.1) ?_
        clear hK K
        (try simp only [Act.put, List.setIfInBounds_toArray, List.set_cons_zero, List.set_cons_succ, Array.setIfInBounds_toArray])
        obtain ⟨⟨sc0, sf0⟩, sk⟩ := ST.out _ hb.2.2.2.1
        obtain ⟨sc1, sf1⟩ := sk a1 c1
        refine AnyT.only (i := 11) (by kernel_rfl) rfl (by rfl) (fun K hK => ?_)
        go_simp
        refine hK.out _ _ (fun h => absurd h (by decide +kernel)) ?_
        clear hK K
        refine AnyT.only (i := 12) (by kernel_rfl) rfl (by rfl) (fun K hK => ?_)
        go_simp
        refine hK.out _ _ (fun h => absurd h (by decide +kernel)) ?_
        clear hK K
        refine AnyT.only (i := 13) (by kernel_rfl) rfl (by rfl) (fun K hK => ?_)
        go_simp
        refine hK.out _ _ (fun h => absurd h (by decide +kernel)) ?_
        clear hK K
        refine AnyT.done (by kernel_rfl) ?_ _
        exact END.out W4 a1 c1 a2 c2 hb
      focus
        go_simp
        refine hK.out _ _ (fun _ => SF.out _ bAB) ?_
        clear hK K
        obtain ⟨a1, c1, W2, a2, c2, W4, r1, r2, bW, hb⟩ := X2.out
        have hSS := SF.out _ bW
        have hSS' : (fun w' : World => w'.cell? ⟨Z + 1, 0, none⟩ = some (.slice aA k cA) ∧ w'.cell? ⟨Z + 1, 1, none⟩ = some (.slice aB k cB')) W2 := hSS
        refine AnyT.only (i := 4) (by kernel_rfl) rfl (by rfl) (fun K hK => ?_)
        refine wpIn_run1 (fun _ => trivial) (fun c hc => by cases hc) (exec_append rfl rfl rfl r1) ?_
        refine hK.out _ _ (fun _ => hSS) ?_
        clear hK K
        (try simp only [Act.put, List.setIfInBounds_toArray, List.set_cons_zero, List.set_cons_succ, Array.setIfInBounds_toArray])
        refine AnyT.take (i := 10) (v := ?_) (by decide) (by kernel_rfl) rfl (by kernel_rfl) (by kernel_rfl) (by kernel_rfl) (by kernel_rfl) (fun _ _ _ h => h) (by assumption) (by rfl) (fun _ => rfl) ?_ ?_
        rotate_left
        focus (intro w hSw; (try dsimp only at hSw); go_split_ands; go_simp; (try with_reducible rfl))
        (try simp only [Act.put, List.setIfInBounds_toArray, List.set_cons_zero, List.set_cons_succ, Array.setIfInBounds_toArray])
        refine AnyT.only (i := 9) (by kernel_rfl) rfl (by rfl) (fun K hK => ?_)
        refine wpIn_run1 (fun _ => trivial) (fun c hc => by cases hc) (exec_append rfl rfl rfl r2) ?_
        refine hK.out _ _ (fun _ => SF.out _ hb.2.2.2.1) ?_
        clear hK K
        (try simp only [Act.put, List.setIfInBounds_toArray, List.set_cons_zero, List.set_cons_succ, Array.setIfInBounds_toArray])
        obtain ⟨⟨sc0, sf0⟩, sk⟩ := ST.out _ hb.2.2.2.1
        obtain ⟨sc1, sf1⟩ := sk a1 c1
        refine AnyT.only (i := 11) (by kernel_rfl) rfl (by rfl) (fun K hK => ?_)
        go_simp
        refine hK.out _ _ (fun h => absurd h (by decide +kernel)) ?_
        clear hK K
        refine AnyT.only (i := 12) (by kernel_rfl) rfl (by rfl) (fun K hK => ?_)
        go_simp
        refine hK.out _ _ (fun h => absurd h (by decide +kernel)) ?_
        clear hK K
        refine AnyT.only (i := 13) (by kernel_rfl) rfl (by rfl) (fun K hK => ?_)
        go_simp
        refine hK.out _ _ (fun h => absurd h (by decide +kernel)) ?_
        clear hK K
        refine AnyT.done (by kernel_rfl) ?_ _
        exact END.out W4 a1 c1 a2 c2 hb
    focus
      go_simp
      refine hK.out _ _ (fun _ => SF.out _ bB) ?_
      clear hK K
      refine AnyT.only (i := 3) (by kernel_rfl) rfl (by rfl) (fun K hK => ?_)
      go_simp
      refine hK.out _ _ (fun _ => SF.out _ bBA) ?_
      clear hK K
      obtain ⟨a1, c1, W2, a2, c2, W4, r1, r2, bW, hb⟩ := X3.out
      have hSS := SF.out _ bW
      have hSS' : (fun w' : World => w'.cell? ⟨Z + 1, 0, none⟩ = some (.slice aA k cA) ∧ w'.cell? ⟨Z + 1, 1, none⟩ = some (.slice aB k cB')) W2 := hSS
      refine AnyT.only (i := 4) (by kernel_rfl) rfl (by rfl) (fun K hK => ?_)
      refine wpIn_run1 (fun _ => trivial) (fun c hc => by cases hc) (exec_append rfl rfl rfl r1) ?_
      refine hK.out _ _ (fun _ => hSS) ?_
      clear hK K
      (try simp only [Act.put, List.setIfInBounds_toArray, List.set_cons_zero, List.set_cons_succ, Array.setIfInBounds_toArray])
      refine AnyT.take (i := 10) (v := ?_) (by decide) (by kernel_rfl) rfl (by kernel_rfl) (by kernel_rfl) (by kernel_rfl) (by kernel_rfl) (fun _ _ _ h => h) (by assumption) (by rfl) (fun _ => rfl) ?_ ?_
      rotate_left
      focus (intro w hSw; (try dsimp only at hSw); go_split_ands; go_simp; (try with_reducible rfl))
      (try simp only [Act.put, List.setIfInBounds_toArray, List.set_cons_zero, List.set_cons_succ, Array.setIfInBounds_toArray])
      refine AnyT.only (i := 9) (by kernel_rfl) rfl (by rfl) (fun K hK => ?_)
      refine wpIn_run1 (fun _ => trivial) (fun c hc => by cases hc) (exec_append rfl rfl rfl r2) ?_
      refine hK.out _ _ (fun _ => SF.out _ hb.2.2.2.1) ?_
      clear hK K
      (try simp only [Act.put, List.setIfInBounds_toArray, List.set_cons_zero, List.set_cons_succ, Array.setIfInBounds_toArray])
      obtain ⟨⟨sc0, sf0⟩, sk⟩ := ST.out _ hb.2.2.2.1
      obtain ⟨sc1, sf1⟩ := sk a1 c1
      refine AnyT.only (i := 11) (by kernel_rfl) rfl (by rfl) (fun K hK => ?_)
      go_simp
      refine hK.out _ _ (fun h => absurd h (by decide +kernel)) ?_
      clear hK K
      refine AnyT.only (i := 12) (by kernel_rfl) rfl (by rfl) (fun K hK => ?_)
      go_simp
      refine hK.out _ _ (fun h => absurd h (by decide +kernel)) ?_
      clear hK K
      refine AnyT.only (i := 13) (by kernel_rfl) rfl (by rfl) (fun K hK => ?_)
      go_simp
      refine hK.out _ _ (fun h => absurd h (by decide +kernel)) ?_
      clear hK K
      refine AnyT.done (by kernel_rfl) ?_ _
      exact END.out W4 a1 c1 a2 c2 hb
  case done =>
    rintro D W hD ⟨i1, i2, aA, cA, aB, cB', i3, i4, i5, i6, i7⟩ hK
    have q0 := i2.read (j := 0) (u := .slice none 0 0) rfl
    have q1 := i2.read (j := 1) (u := .slice none 0 0) rfl
    have p0 := (i3.read (j := 0) (u := .slice aA n cA) rfl).1
    have p1 := (i3.read (j := 1) (u := .slice aB n cB') rfl).1
    have m := (i2.set 0 (.slice aA n cA) rfl).set 1 (.slice aB n cB') rfl
    have g4 := (i4.setOther ⟨Z, 0, none⟩ (.slice aA n cA) (fun g hg => by have := (i4.blk hg).1; simp; omega)).setOther ⟨Z, 1, none⟩ (.slice aB n cB') (fun g hg => by have := (i4.blk hg).1; simp; omega)
    have g5 := (i5.setOther ⟨Z, 0, none⟩ (.slice aA n cA) (fun g hg => by have := (i5.blk hg).1; simp; omega)).setOther ⟨Z, 1, none⟩ (.slice aB n cB') (fun g hg => by have := (i5.blk hg).1; simp; omega)
    have g1 := (i1.setCell (p := ⟨Z, 0, none⟩) (by simp; omega) (.slice aA n cA)).setCell (p := ⟨Z, 1, none⟩) (by simp; omega) (.slice aB n cB')
    have hDZ : D ≠ Z := by omega
    have hK2 : ((W.setCell ⟨Z, 0, none⟩ (.slice aA n cA)).setCell ⟨Z, 1, none⟩ (.slice aB n cB')).heap[D]? = some (.deferred (some [])) := by
      rw [Below.heap_setCell _ _ _ D (by simpa using hDZ), Below.heap_setCell _ _ _ D (by simpa using hDZ)]; exact hK
    gi_wp2
    clear i1 i2 i3 i4 i5 q0 q1 p0 p1 hK
    generalize ((W.setCell ⟨Z, 0, none⟩ (.slice aA n cA)).setCell ⟨Z, 1, none⟩ (.slice aB n cB')) = W2 at *
    have hgr := grownBy_putObj' W2 D (.deferred none)
    have hm := m.abide (B := w5.heap.size) (wr := fun _ => False) hgr (fun r e => by cases e; exact .inr ⟨hD, _, hK2, rfl⟩) (fun _ _ h => h)
    have h4 := g4.abide (B := w5.heap.size) (wr := fun _ => False) hgr (fun r e => by cases e; exact .inr ⟨hD, _, hK2, rfl⟩) (fun _ _ h => h)
    have h5 := g5.abide (B := w5.heap.size) (wr := fun _ => False) hgr (fun r e => by cases e; exact .inr ⟨hD, _, hK2, rfl⟩) (fun _ _ h => h)
    have bel := g1.trans (belowK_b (n₀ := B) (w := w5) (by omega) W2 D _ (.deferred none) hD hK2 rfl rfl)
    refine ⟨by simp, .inl ⟨_, _, rfl, run_takeDeferred hK2, ?_⟩⟩
    clear m g4 g5 g1 hgr hK2
    have r0 := (hm.read (j := 0) (u := .slice aA n cA) rfl).1
    have r1 := (hm.read (j := 1) (u := .slice aB n cB') rfl).1
    refine ⟨.agg #[.slice aA n cA, .slice aB n cB'], ?res, ?_⟩
    case res =>
      rw [results_cell1 rfl]
      go_simp
    exact ⟨aA, cA, aB, cB', rfl, h4.lower (by omega), h5.lower (by omega), bel⟩
  case stop =>
    rintro D c k W hD _ h
    exact h.elim
end Go.Proofs.Ytlmpooibpopcaaa
