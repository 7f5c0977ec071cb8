/-
  Ranges over functions whose iterator keeps its state in boxes that it writes between two rounds: the k-th element is told by its number. Of no program.
-/
import Derived.Test.YtjjdckbdjmbndaaIter
namespace Go.Proofs.Ytjjdckbdjmbndaa
set_option linter.unusedSimpArgs false
set_option linter.unusedVariables false
open Go.RowKit Go.Shelf

section
variable {F : Fence} {n : Nat} {P : Program}

/-- what a turn of the iterator's own boxes does not touch -/
def AbW (wr : Nat → Prop) (J : Nat → World → Prop) : Prop := ∀ k W W' row, J k W → W.grownBy W' row → (∀ r, row = some r → wr r) → J k W'
/-- the blocks that the body keeps for the iterator -/
def KeepB (mine : Nat → Prop) (W W' : World) : Prop := ∀ r, mine r → W'.heap[r]? = W.heap[r]?
theorem KeepB.trans {mine : Nat → Prop} {A B C : World} (h : KeepB mine A B) (k : KeepB mine B C) : KeepB mine A C := fun r hr => (k r hr).trans (h r hr)
theorem KeepB.refl (mine : Nat → Prop) (A : World) : KeepB mine A A := fun r hr => rfl

theorem grown_draws (W : World) (n : Nat) (row : Option Nat) : W.grownBy (W.drewN n) row := ⟨rfl, rfl, rfl, Nat.le_refl _, fun _ _ _ => rfl⟩
theorem grown_below {W W' : World} (hb : Below W.heap.size W W') (row : Option Nat) : W.grownBy W' row := ⟨hb.os, hb.tape, hb.output, hb.size, fun k hk _ => hb.block k hk⟩

/-- the iterator's contract: elements 0 .. N - 1 come, one by one; a round may say 'no more' -/
def SeqN (F : Fence) (n : Nat) (P : Program) (g : Nat) (lb : Array Value) (enc : Nat → Array Value) (mine wr : Nat → Prop) (N : Nat) (w : World) : Prop :=
  ∀ (l : Nat) (J Jx : Nat → World → Prop) (W : World), Below w.heap.size w W → w.heap.size + 2 ≤ W.heap.size → AbW wr J → AbW wr Jx →
    (∀ k W1, J k W1 → k < N → YieldAt F (n - 1) P l (enc k) W1 fun e W' =>
      (e = .returned (.bool true) ∧ J (k + 1) W' ∧ KeepB mine W1 W') ∨ (e = .returned (.bool false) ∧ Jx (k + 1) W')) →
    J 0 W →
    CallsIn F n P g (#[.func (.yield l) #[] #[]] ++ lb) W fun e W' => (∃ v, e = .returned v) ∧ (J N W' ∨ ∃ k, k ≤ N ∧ Jx k W')

/-- what the loop's own book-keeping, and the iterator, do not touch -/
def Abide (B : Nat) (wr : Nat → Prop) (I : Nat → World → Prop) : Prop :=
  ∀ k W W' row, I k W → W.grownBy W' row → (∀ r, row = some r → wr r ∨ (B ≤ r ∧ ∃ o : Obj, W.heap[r]? = some o ∧ o.isCells = false)) → I k W'
theorem Abide.alloc {B : Nat} {wr : Nat → Prop} {I : Nat → World → Prop} (h : Abide B wr I) {k : Nat} {W : World} (o : Obj) (hs : I k W) : I k (W.alloc o) :=
  h k W _ none hs (World.grownBy_alloc W o none) (fun r e => by cases e)
theorem Abide.putObj {B : Nat} {wr : Nat → Prop} {I : Nat → World → Prop} (h : Abide B wr I) {k : Nat} {W : World} {l : Nat} {o : Obj} (o' : Obj) (hs : I k W) (hB : B ≤ l) (hl : W.heap[l]? = some o) (ho : o.isCells = false) : I k (W.putObj l o') :=
  h k W _ (some l) hs (grownBy_putObj' W l o') (fun r e => by cases e; exact .inr ⟨hB, o, hl, ho⟩)
theorem Abide.and {B : Nat} {wr : Nat → Prop} {I I' : Nat → World → Prop} (h : Abide B wr I) (h' : Abide B wr I') : Abide B wr (fun k W => I k W ∧ I' k W) := fun k W W' row hs hg hr => ⟨h k W W' row hs.1 hg hr, h' k W W' row hs.2 hg hr⟩
theorem Abide.below {B n₀ : Nat} {wr : Nat → Prop} {w0 : World} (h0 : n₀ ≤ w0.heap.size) (hB : n₀ ≤ B) (hw : ∀ r, wr r → n₀ ≤ r) : Abide B wr (fun _ W => Below n₀ w0 W) := fun k W W' row hs hg hr =>
  hs.grown hg (Nat.le_trans h0 hs.size) (fun r e => by rcases hr r e with h | h; exact hw r h; omega)
theorem Abide.pure {B : Nat} {wr : Nat → Prop} (p : Nat → Prop) : Abide B wr (fun k _ => p k) := fun k W W' row hs _ _ => hs
theorem Abide.size {B m : Nat} {wr : Nat → Prop} : Abide B wr (fun _ W => m ≤ W.heap.size) := fun k W W' row hs hg _ => Nat.le_trans hs hg.size
theorem keep_cells {B : Nat} {wr : Nat → Prop} {W W' : World} {row : Option Nat} {g : Nat} {o : Obj} (hg : W.grownBy W' row) (hr : ∀ r, row = some r → wr r ∨ (B ≤ r ∧ ∃ o : Obj, W.heap[r]? = some o ∧ o.isCells = false)) (ho : W.heap[g]? = some o) (hc : o.isCells = true) (hn : ¬ wr g) : W'.heap[g]? = W.heap[g]? :=
  hg.block g (Array.getElem?_eq_some_iff.1 ho).1 (fun e => by
    rcases hr g e.symm with h | ⟨_, o', h1, h2⟩
    · exact hn h
    · rw [ho] at h1; cases h1; rw [hc] at h2; cases h2)
theorem Abide.boxed {B Bx : Nat} {wr : Nat → Prop} (t : TypeId) (f : Nat → Value) (hn : ¬ wr Bx) : Abide B wr (fun k W => Boxed W Bx t (f k)) := fun k W W' row hs hg hr =>
  (keep_cells hg hr hs rfl hn).trans hs
theorem Own.abide {B : Nat} {wr : Nat → Prop} {W W' : World} {row : Option Nat} {e sz lo : Nat} {ad : Option Addr} {m cap : Nat} {cs : List Value} (h : Own W e sz lo ad m cap cs) (hg : W.grownBy W' row)
    (hr : ∀ r, row = some r → wr r ∨ (B ≤ r ∧ ∃ o : Obj, W.heap[r]? = some o ∧ o.isCells = false)) (hn : ∀ g, ad = some ⟨g, 0, none⟩ → ¬ wr g) : Own W' e sz lo ad m cap cs :=
  h.keep fun g hgg => by
    obtain ⟨_, hc⟩ := h.cases
    rcases hc with ⟨h1, _⟩ | ⟨g', cur, h1, _, h2, _⟩
    · rw [h1] at hgg; cases hgg
    · rw [h1] at hgg; cases hgg
      exact keep_cells hg hr h2 rfl (hn g h1)

/-- how a round may be left -/
def outOf (B : Nat) (mine : Nat → Prop) (I : Nat → World → Prop) (Ix : Code → Nat → World → Prop) (k : Nat) (W : World) : Exit → Act → World → Prop
  | .normal, _, W' => KeepsFrom B W W' ∧ KeepB mine W W' ∧ I k W'
  | .ret, _, W' => KeepsFrom B W W' ∧ Ix .ret k W'
  | .exit id, _, W' => KeepsFrom B W W' ∧ Ix (.exit id) k W'
  | .goto t, _, W' => KeepsFrom B W W' ∧ Ix (.goto t) k W'
  | .panic _, _, _ => False
  | .outgrown, _, _ => False

/-- the loop -/
theorem wpIn_rangeN {g : Operand} {ps : Array Tmp} {assign body : Code} {Q : Exit → Act → World → Prop} {a : Act} {w : World}
    (hro : F.round = none) (h1 : 1 ≤ n) {gf : Nat} {lb : Array Value} (hg : a.eval g = .func (.func gf) #[] lb) (hFg : F.fn gf) (eg : ∀ args w, (callFunc gf args).run P w = .ok (.enter gf args) w)
    {enc : Nat → Array Value} {mine wr : Nat → Prop} {N : Nat} {w0 : World} (hseq : SeqN F (n - 1) P gf lb enc mine wr N w0) (hm : ∀ r, mine r → r ≠ w.heap.size + 1) (hwr : ∀ r, wr r → r < w.heap.size)
    (hb0 : Below w0.heap.size w0 w) (hps : ∀ k, (enc k).size = ps.size)
    (I : Nat → World → Prop) (Ix : Code → Nat → World → Prop) (hI : Abide w.heap.size wr I) (hIx : ∀ c, Abide w.heap.size wr (Ix c)) (h0 : I 0 w) (a₁ : Nat → Act)
    (hassign : ∀ (l k : Nat) (W : World) (K : Act → World → Prop), K (a₁ k) W →
      assign.wpIn (F.inRound l) (n - 1 - 1) P (Exit.then K (fun _ _ _ => False)) { tmps := (ps.zip (enc k)).foldl (fun t (p, v) => t.setIfInBounds p v) a.tmps, defers := [] } W)
    (hbody : ∀ (l k : Nat) (W : World), I k W → k < N → body.wpIn (F.inRound l) (n - 1 - 1) P (outOf w.heap.size mine I Ix (k + 1) W) (a₁ k) W)
    (hdone : ∀ (D : Nat) (W : World), w.heap.size ≤ D → I N W → W.heap[D]? = some (.deferred (some [])) → Q .normal { a with defers := { target := .collected D, args := #[] } :: a.defers } W)
    (hstop : ∀ (D : Nat) (c : Code) (k : Nat) (W : World), w.heap.size ≤ D → k ≤ N → Ix c k W → W.heap[D]? = some (.deferred (some [])) → c.wpIn F n P Q { a with defers := { target := .collected D, args := #[] } :: a.defers } W) :
    (Code.rangeFunc g ps assign body).wpIn F n P Q a w := by
  refine wpIn_rangeFunc fun fn hfn => ?_
  rw [hro]
  let B := w.heap.size
  let rec0 : LoopState → Option Code → Loop := fun st pe => { state := st, pending := pe, fn, tmps := a.tmps, params := ps, assign, body, defers := B }
  let W1 := (w.alloc (.deferred (some []))).alloc (.loop (rec0 .ready none))
  have sz1 : W1.heap.size = B + 2 := by show (World.alloc _ _).heap.size = _; simp [B]
  have rL : W1.heap[B + 1]? = some (.loop (rec0 .ready none)) := by
    have := World.alloc_heap_new (w.alloc (.deferred (some []))) (.loop (rec0 .ready none)); rwa [World.size_alloc] at this
  have rD : W1.heap[B]? = some (.deferred (some [])) := (Below.heap_alloc _ _ _ (by simp [B])).trans (World.alloc_heap_new w _)
  have c1 : Below w0.heap.size w0 W1 := hb0.trans ((((Below.refl _ w).alloc (Nat.le_refl _) _).alloc (by simp) _).mono hb0.size)
  have i1 : I 0 W1 := hI.alloc _ (hI.alloc _ h0)
  -- the rows of book-keeping lie as they lay through the iterator's own steps
  have book : ∀ {X Y : World} {row : Option Nat} (j : Nat) (o : Obj), B ≤ j → X.grownBy Y row → (∀ r, row = some r → wr r) → X.heap[j]? = some o → Y.heap[j]? = some o := fun j o hj hgr hr ho =>
    (hgr.block j (Array.getElem?_eq_some_iff.1 ho).1 (fun e => by have h2 : j < B := hwr j (hr j e.symm); omega)).trans ho
  refine ⟨B + 1, [{ target := .collected B, args := #[] }], W1, { target := .fn (.func gf) lb, args := #[.func (.yield (B + 1)) #[] #[]] }, W1, gf, #[.func (.yield (B + 1)) #[] #[]] ++ lb, W1,
    run_enterLoop_outer _ _ _ _ _, by simp only [resolve, hg]; simp [go_sem], fun f' hf' => by simp [Target.leads] at hf'; subst hf'; exact hFg, by simp [invoke, go_sem, eg], fun _ => h1, ?_⟩
  refine (hseq (B + 1) (fun k W => I k W ∧ W.heap[B + 1]? = some (.loop (rec0 .ready none)) ∧ W.heap[B]? = some (.deferred (some [])))
    (fun k W => ∃ c, Ix c k W ∧ W.heap[B + 1]? = some (.loop (rec0 .done (some c))) ∧ W.heap[B]? = some (.deferred (some []))) W1 c1 (by rw [sz1]; have := hb0.size; show w0.heap.size + 2 ≤ w.heap.size + 2; omega)
    (fun k X Y row hs hgr hr => ⟨hI k X Y row hs.1 hgr (fun r e => .inl (hr r e)), book _ _ (Nat.le_succ _) hgr hr hs.2.1, book _ _ (Nat.le_refl _) hgr hr hs.2.2⟩)
    (fun k X Y row ⟨c, h2, h3, h4⟩ hgr hr => ⟨c, hIx c k X Y row h2 hgr (fun r e => .inl (hr r e)), book _ _ (Nat.le_succ _) hgr hr h3, book _ _ (Nat.le_refl _) hgr hr h4⟩)
    ?round ⟨i1, rL, rD⟩).mono ?after
  case round =>
    rintro k W ⟨hi, hl, hd⟩ hk
    have hlt : B + 1 < W.heap.size := (Array.getElem?_eq_some_iff.1 hl).1
    refine ⟨fn, _, assign, body, run_yield (P := P) (args := enc k) hl (hps k), roundIn_of_wpIn hfn (hassign _ k W _ ⟨_, run_beginRound hl rfl, ?_⟩)⟩
    obtain ⟨Wb, hWb⟩ : ∃ Wb, W.putObj (B + 1) (.loop { rec0 .ready none with state := .busy }) = Wb := ⟨_, rfl⟩
    have bl : Wb.heap[B + 1]? = some (.loop { rec0 .ready none with state := .busy }) := by rw [← hWb]; exact World.putObj_heap_same hlt
    have bd : Wb.heap[B]? = some (.deferred (some [])) := by rw [← hWb]; exact (World.putObj_heap_other (by omega)).trans hd
    have bi : I k Wb := by rw [← hWb]; exact hI.putObj _ hi (Nat.le_succ _) hl rfl
    have bm : KeepB mine W Wb := fun r hr => by rw [← hWb]; exact World.putObj_heap_other (by have h2 : r ≠ B + 1 := hm r hr; omega)
    refine wpIn_mono (show body.wpIn (F.inRound (B + 1)) (n - 1 - 1) P (outOf B mine I Ix (k + 1) Wb) (a₁ k) _ by rw [hWb]; exact hbody (B + 1) k Wb bi hk) ?_
    -- the round's end
    have fin : ∀ (jump : Option Code) (W3 : World), KeepsFrom B Wb W3 → ∃ W4, (Instr.endRound (B + 1) jump).run P W3 = .ok (.bool jump.isNone) W4 ∧ W4 = W3.putObj (B + 1) (.loop (rec0 (if jump.isNone then .ready else .done) jump)) ∧
        (∃ o : Obj, W3.heap[B + 1]? = some o ∧ o.isCells = false) ∧ W4.heap[B + 1]? = some (.loop (rec0 (if jump.isNone then .ready else .done) jump)) ∧ W4.heap[B]? = some (.deferred (some [])) := fun jump W3 hk3 => by
      have hl3 := hk3.same _ _ (Nat.le_succ _) bl rfl
      exact ⟨_, run_endRound (P := P) jump hl3, rfl, ⟨_, hl3, rfl⟩, World.putObj_heap_same (Array.getElem?_eq_some_iff.1 hl3).1, (World.putObj_heap_other (by omega)).trans (hk3.same _ _ (Nat.le_refl _) bd rfl)⟩
    rintro e a3 W3 hp
    have left : ∀ c : Code, KeepsFrom B Wb W3 → Ix c (k + 1) W3 → ∃ ok W4, (Instr.endRound (B + 1) (some c)).run P W3 = .ok ok W4 ∧
        (∃ c', Ix c' (k + 1) W4 ∧ W4.heap[B + 1]? = some (.loop (rec0 .done (some c'))) ∧ W4.heap[B]? = some (.deferred (some []))) ∧ ok = .bool false := fun c hk3 hx => by
      obtain ⟨W4, hr, he, ⟨o, ho, hc⟩, h5, h6⟩ := fin (some c) W3 hk3
      exact ⟨_, W4, hr, ⟨c, by rw [he]; exact (hIx c).putObj _ hx (Nat.le_succ _) ho hc, h5, h6⟩, rfl⟩
    cases e with
    | normal =>
      obtain ⟨hk3, hp3, hi3⟩ := hp
      obtain ⟨W4, hr, he, ⟨o, ho, hc⟩, h5, h6⟩ := fin none W3 hk3
      refine ⟨_, W4, hr, .inl ⟨rfl, ⟨by rw [he]; exact hI.putObj _ hi3 (Nat.le_succ _) ho hc, h5, h6⟩, (bm.trans hp3).trans fun r hr => ?_⟩⟩
      rw [he]; exact World.putObj_heap_other (by have h2 : r ≠ B + 1 := hm r hr; omega)
    | ret => obtain ⟨ok, W4, h2, h3, rfl⟩ := left .ret hp.1 hp.2; exact ⟨_, W4, h2, .inr ⟨rfl, h3⟩⟩
    | exit id => obtain ⟨ok, W4, h2, h3, rfl⟩ := left (.exit id) hp.1 hp.2; exact ⟨_, W4, h2, .inr ⟨rfl, h3⟩⟩
    | goto t => obtain ⟨ok, W4, h2, h3, rfl⟩ := left (.goto t) hp.1 hp.2; exact ⟨_, W4, h2, .inr ⟨rfl, h3⟩⟩
    | panic ch => exact hp.elim
    | outgrown => exact hp.elim
  case after =>
    rintro e W2 ⟨⟨v, rfl⟩, (⟨hi, hl, hd⟩ | ⟨k, hk, c, hi, hl, hd⟩)⟩
    · exact ⟨none, _, run_endLoop (P := P) hl (by simp [rec0]), hdone B _ (Nat.le_refl _) (hI.putObj _ hi (Nat.le_succ _) hl rfl) ((World.putObj_heap_other (by omega)).trans hd)⟩
    · exact ⟨some c, _, run_endLoop (P := P) hl (by simp [rec0]), hstop B c k _ (Nat.le_refl _) hk ((hIx c).putObj _ hi (Nat.le_succ _) hl rfl) ((World.putObj_heap_other (by omega)).trans hd)⟩
end
end Go.Proofs.Ytjjdckbdjmbndaa
