/- near.nearest: the walk. -/
import Derived.Test.YtnlemaaglbbdnaaNearF
import Derived.Test.YtnlemaaglbbdnaaReg
namespace Go.Proofs.Ytnlemaaglbbdnaa
set_option linter.unusedSimpArgs false
set_option linter.unusedVariables false
open Go.RowKit Go.Shelf
attribute [local go_sem] Oper.semAt_some

/-- how many places are left, when those with no lesser number have gone -/
def cutAt (zs : List Int) (v : Int) (st : List Nat) : Nat → Nat
  | 0 => 0
  | j + 1 => if atI zs (st.getD j 0) < v then j + 1 else cutAt zs v st j

theorem cutAt_of (zs : List Int) (v : Int) (st : List Nat) (j : Nat) : ∀ n, j ≤ n → (∀ i, j ≤ i → i < n → v ≤ atI zs (st.getD i 0)) → (0 < j → atI zs (st.getD (j - 1) 0) < v) → cutAt zs v st n = j
  | 0, h, _, _ => by simp [cutAt]; omega
  | n + 1, h, hp, hq => by
    unfold cutAt
    by_cases hj : j = n + 1
    · subst hj
      have := hq (by omega)
      rw [Nat.add_sub_cancel] at this
      rw [if_pos this]
    · have := hp n (by omega) (by omega)
      rw [if_neg (by omega)]
      exact cutAt_of zs v st j n (by omega) (fun i h1 h2 => hp i h1 (by omega)) hq

theorem cutAt_le (zs : List Int) (v : Int) (st : List Nat) : ∀ n, cutAt zs v st n ≤ n
  | 0 => Nat.le_refl _
  | n + 1 => by
    unfold cutAt; split
    · exact Nat.le_refl _
    · exact Nat.le_succ_of_le (cutAt_le zs v st n)

/-- one round: the stack, the results -/
def stepN (zs : List Int) (n : Nat) (v0 : Int) (s : List Nat × List Int) (x : Nat × Int) : List Nat × List Int :=
  (s.1.take (cutAt zs x.2 s.1 s.1.length) ++ [x.1 % n], s.2.set (x.1 % n) (if cutAt zs x.2 s.1 s.1.length = 0 then v0 else (s.1.getD (cutAt zs x.2 s.1 s.1.length - 1) 0 : Nat)))
def foldN (zs : List Int) (n : Nat) (v0 : Int) (pre : List (Nat × Int)) : List Nat × List Int := pre.foldl (stepN zs n v0) ([], List.replicate n 0)
theorem foldN_snoc (zs : List Int) (n : Nat) (v0 : Int) (pre : List (Nat × Int)) (x : Nat × Int) : foldN zs n v0 (pre ++ [x]) = stepN zs n v0 (foldN zs n v0 pre) x := by simp [foldN]

/-- the stack holds places -/
theorem foldN_lt (zs : List Int) (n : Nat) (v0 : Int) (hn : 0 < n) (pre : List (Nat × Int)) : (∀ i ∈ (foldN zs n v0 pre).1, i < n) ∧ (foldN zs n v0 pre).1.length ≤ pre.length := by
  unfold foldN
  suffices h : ∀ (pre : List (Nat × Int)) (s : List Nat × List Int), (∀ i ∈ s.1, i < n) → (∀ i ∈ (pre.foldl (stepN zs n v0) s).1, i < n) ∧ (pre.foldl (stepN zs n v0) s).1.length ≤ s.1.length + pre.length by
    have := h pre ([], List.replicate n 0) (by simp)
    simpa using this
  intro pre
  induction pre with
  | nil => intro s hs; exact ⟨hs, by simp⟩
  | cons x pre ih =>
    intro s hs
    have h1 : ∀ i ∈ (stepN zs n v0 s x).1, i < n := by
      intro i hi
      simp only [stepN, List.mem_append, List.mem_singleton] at hi
      rcases hi with hi | rfl
      · exact hs i (List.mem_of_mem_take hi)
      · exact Nat.mod_lt _ hn
    have h2 : (stepN zs n v0 s x).1.length ≤ s.1.length + 1 := by simp [stepN, List.length_take]; omega
    obtain ⟨h3, h4⟩ := ih _ h1
    refine ⟨h3, ?_⟩
    simp only [List.foldl_cons, List.length_cons]; omega

set_option maxRecDepth 100000 in
set_option maxHeartbeats 4000000 in
theorem nearest_law (w : World) (ad : Option Addr) (n cap : Nat) (zs : List Int) (hz : Rd w 1 ad n cap (I64 zs)) (hn : n ≤ 100000) (v0 : Int) (gf : Nat) (lb : Array Value) (ord : Nat → Nat × Int) (eg : ∀ args w, (callFunc gf args).run Try.prog w = .ok (.enter gf args) w)
    (hseq : ∀ W, Below w.heap.size w W → SeqStopsK Fence.wide 8 Try.prog gf lb (pairE n) (Below w.heap.size) (fun ys => ys = upto ord n) (fun _ => True) n W) :
    Calls Try.prog 32 #[.slice ad n cap, .func (.func gf) #[] lb, .int .i64 v0] w fun e w' => ∃ g, e = .returned (.slice (some ⟨g, 0, none⟩) n n) ∧ Own w' 3 1 w.heap.size (some ⟨g, 0, none⟩) n n (I64 (foldN zs n v0 (upto ord n)).2) ∧ Below w.heap.size w w' := by
  refine (callsIn_wide (n := 9)).1 ?_
  have hn63 : n ≤ maxLen := by unfold maxLen; omega
  have hby : 8 * n ≤ 281474976710656 := by omega
  have H1 := Lib.hid hn63; clear hn63
  have H2 := Lib.hid hby; clear hby
  refine callsIn_of_wp_marks Try.func32 rfl trivial ?_ rfl
  simp only [Try.ntmps32, List.size_toArray, List.length_cons, List.length_nil, Nat.reduceAdd, Nat.reduceSub, Array.replicate_succ, Array.replicate_zero, List.push_toArray, List.append_toArray, List.nil_append, List.cons_append]
  gi_wp2_with (refine wpListIn_mk (fun _ => trivial) rfl _ _ _ rfl tI rfl rfl n rfl rfl rfl rfl H1.out H2.out ?_; intro w1 ho1 hb1 hs1)
  have hsz1 : w1.heap.size = w.heap.size + 3 := by have := hs1.out; simp at this; omega
  clear hs1
  have bL := ((Boxed.new w 28 (.slice ad n cap)).alloc (.cells #[.int .i64 v0] 3))
  have bN := Boxed.new (w.alloc (.cells #[.slice ad n cap] 28)) 3 (.int .i64 v0)
  have hB1 : Below w.heap.size w w1 := (((Below.refl _ w).alloc (Nat.le_refl _) _).alloc (by simp) _).trans (hb1.mono (by simp; omega))
  replace bL : Boxed w1 w.heap.size 28 (.slice ad n cap) := (hb1.block _ bL.lt).trans bL
  replace bN : Boxed w1 (w.heap.size + 1) 3 (.int .i64 v0) := by rw [World.size_alloc] at bN; exact (hb1.block _ bN.lt).trans bN
  clear hb1
  simp only [World.size_alloc] at ho1
  obtain ⟨B, hB⟩ : ∃ B, w.heap.size = B := ⟨_, rfl⟩
  obtain ⟨S, hS⟩ : ∃ S, w1.heap.size = S := ⟨_, rfl⟩
  have bO := (((Boxed.new w1 28 (.slice (some ⟨B + 1 + 1, 0, none⟩) n n)).alloc (.cells #[.slice none 0 0] 72)).alloc (.cells #[.func (.func 44) #[.pointer (some ⟨S + 1, 0, none⟩)] #[]] 73)).alloc (.cells #[.func (.func 45) #[.pointer (some ⟨S + 1, 0, none⟩)] #[]] 74)
  have bS := ((Boxed.new (w1.alloc (.cells #[.slice (some ⟨B + 1 + 1, 0, none⟩) n n] 28)) 72 (.slice none 0 0)).alloc (.cells #[.func (.func 44) #[.pointer (some ⟨S + 1, 0, none⟩)] #[]] 73)).alloc (.cells #[.func (.func 45) #[.pointer (some ⟨S + 1, 0, none⟩)] #[]] 74)
  have bU := (Boxed.new ((w1.alloc (.cells #[.slice (some ⟨B + 1 + 1, 0, none⟩) n n] 28)).alloc (.cells #[.slice none 0 0] 72)) 73 (.func (.func 44) #[.pointer (some ⟨S + 1, 0, none⟩)] #[])).alloc (.cells #[.func (.func 45) #[.pointer (some ⟨S + 1, 0, none⟩)] #[]] 74)
  have bP := Boxed.new (((w1.alloc (.cells #[.slice (some ⟨B + 1 + 1, 0, none⟩) n n] 28)).alloc (.cells #[.slice none 0 0] 72)).alloc (.cells #[.func (.func 44) #[.pointer (some ⟨S + 1, 0, none⟩)] #[]] 73)) 74 (.func (.func 45) #[.pointer (some ⟨S + 1, 0, none⟩)] #[])
  replace bL := (((bL.alloc (.cells #[.slice (some ⟨B + 1 + 1, 0, none⟩) n n] 28)).alloc (.cells #[.slice none 0 0] 72)).alloc (.cells #[.func (.func 44) #[.pointer (some ⟨S + 1, 0, none⟩)] #[]] 73)).alloc (.cells #[.func (.func 45) #[.pointer (some ⟨S + 1, 0, none⟩)] #[]] 74)
  replace bN := (((bN.alloc (.cells #[.slice (some ⟨B + 1 + 1, 0, none⟩) n n] 28)).alloc (.cells #[.slice none 0 0] 72)).alloc (.cells #[.func (.func 44) #[.pointer (some ⟨S + 1, 0, none⟩)] #[]] 73)).alloc (.cells #[.func (.func 45) #[.pointer (some ⟨S + 1, 0, none⟩)] #[]] 74)
  replace ho1 := (((ho1.alloc (.cells #[.slice (some ⟨B + 1 + 1, 0, none⟩) n n] 28)).alloc (.cells #[.slice none 0 0] 72)).alloc (.cells #[.func (.func 44) #[.pointer (some ⟨S + 1, 0, none⟩)] #[]] 73)).alloc (.cells #[.func (.func 45) #[.pointer (some ⟨S + 1, 0, none⟩)] #[]] 74)
  have hB0 : Below w.heap.size w ((((w1.alloc (.cells #[.slice (some ⟨B + 1 + 1, 0, none⟩) n n] 28)).alloc (.cells #[.slice none 0 0] 72)).alloc (.cells #[.func (.func 44) #[.pointer (some ⟨S + 1, 0, none⟩)] #[]] 73)).alloc (.cells #[.func (.func 45) #[.pointer (some ⟨S + 1, 0, none⟩)] #[]] 74)) := by
    refine (((hB1.alloc ?_ _).alloc ?_ _).alloc ?_ _).alloc ?_ _ <;> (first | omega | (simp; omega))
  have hsz0 : ((((w1.alloc (.cells #[.slice (some ⟨B + 1 + 1, 0, none⟩) n n] 28)).alloc (.cells #[.slice none 0 0] 72)).alloc (.cells #[.func (.func 44) #[.pointer (some ⟨S + 1, 0, none⟩)] #[]] 73)).alloc (.cells #[.func (.func 45) #[.pointer (some ⟨S + 1, 0, none⟩)] #[]] 74)).heap.size = S + 4 := by simp [hS]
  simp only [World.size_alloc, hB, hS] at bL bN bO bS bU bP ho1 ⊢
  obtain ⟨W0, hW0⟩ : ∃ W0, ((((w1.alloc (.cells #[.slice (some ⟨B + 1 + 1, 0, none⟩) n n] 28)).alloc (.cells #[.slice none 0 0] 72)).alloc (.cells #[.func (.func 44) #[.pointer (some ⟨S + 1, 0, none⟩)] #[]] 73)).alloc (.cells #[.func (.func 45) #[.pointer (some ⟨S + 1, 0, none⟩)] #[]] 74)) = W0 := ⟨_, rfl⟩
  rw [hW0] at bL bN bO bS bU bP ho1 hB0 hsz0 ⊢
  clear hW0
  have hSB : S = B + 3 := by omega
  clear hS hsz1 hB1
  have HSB := Lib.hid hSB
  replace hseq := hseq W0 hB0
  refine wpIn_rangeFunc_ownH rfl (by omega) (gf := gf) (lb := lb) rfl trivial eg hseq belowK_t (belowK_b (by omega)) (Below.refl _ _) (fun _ => rfl)
    (fun pre W => (Below w.heap.size w W ∧ (S + 4 ≤ W.heap.size ∧ ∀ k, k < S + 4 → k ≠ S + 1 → k ≠ B + 2 → W.heap[k]? = W0.heap[k]?)) ∧ (Own W 3 1 (B + 2) (some ⟨B + 2, 0, none⟩) n n (I64 (foldN zs n v0 pre).2) ∧
      ∃ sd sn sc, Boxed W (S + 1) 72 (.slice sd sn sc) ∧ Own W 3 1 (S + 4) sd sn sc (N64 (foldN zs n v0 pre).1)))
    (fun _ _ _ => False)
    ?hI (fun _ _ _ _ _ hs _ _ => hs) ?h0
    (fun x a' W => ∃ Bv, S + 4 ≤ Bv ∧ Boxed W Bv 3 (.int .i64 x.2) ∧ a' = { tmps := #[.slice ad n cap, .func (.func gf) #[] lb, .int .i64 v0, .pointer (some ⟨B, 0, none⟩), undef, .pointer (some ⟨B + 1, 0, none⟩), .slice none 0 0, .pointer (some ⟨S, 0, none⟩), .pointer (some ⟨S + 1, 0, none⟩), .pointer (some ⟨S + 1 + 1, 0, none⟩), .pointer (some ⟨S + 1 + 1 + 1, 0, none⟩), .int .i64 ((x.1 % n : Nat) : Int), .pointer (some ⟨Bv, 0, none⟩), .slice ad n cap, .int .i64 n, .slice (some ⟨B + 1 + 1, 0, none⟩) n n, .func (.func 44) #[.pointer (some ⟨S + 1, 0, none⟩)] #[], .func (.func 45) #[.pointer (some ⟨S + 1, 0, none⟩)] #[], .func (.func gf) #[] lb, .int .i64 ((x.1 % n : Nat) : Int), .int .i64 x.2, undef, undef, undef, undef, undef, undef, undef, undef, undef, undef, undef], defers := [] })
    (fun x a' _ X Y row hs hg hr => by obtain ⟨Bx, h1, h2, h3⟩ := hs; exact ⟨Bx, h1, boxed_own Bx 3 (fun (_ : Unit) => Value.int .i64 x.2) () X Y row h2 hg (fun r e => (hr r e).2), h3⟩)
    ?assign ?body ?done ?stop
  case hI =>
    refine OwnFrom.and (OwnFrom.and (ownFrom_below (Nat.le_refl _) (by omega)) ?_) (OwnFrom.and (own_from _ _ _ _ _ _ _ _) ?_)
    · intro s X Y row hs hg hr
      exact ⟨Nat.le_trans hs.1 hg.size, fun k h1 h2 h3 => (hg.block k (by omega) (fun e => by have := (hr k e.symm).1; omega)).trans (hs.2 k h1 h2 h3)⟩
    · rintro s X Y row ⟨sd, sn, sc, h1, h2⟩ hg hr
      exact ⟨sd, sn, sc, boxed_own _ 72 (fun (_ : Unit) => Value.slice sd sn sc) () X Y row h1 hg (fun r e => (hr r e).2), own_from (S + 4) 3 1 (S + 4) (fun (_ : Unit) => sd) (fun _ => sn) (fun _ => sc) (fun _ => N64 (foldN zs n v0 s).1) () X Y row h2 hg (fun r e => ⟨by have := (hr r e).1; omega, (hr r e).2⟩)⟩
  case h0 =>
    refine ⟨⟨hB0, by omega, fun _ _ _ _ => rfl⟩, ?_, none, 0, 0, bS, Own.nil _ _ _ _⟩
    simpa [foldN, I64] using ho1
  case assign =>
    rintro l pre x W K ⟨⟨h1, h2, h3⟩, h4, sd, sn, sc, h5, h6⟩ hK
    clear hSB
    dsimp only [pairE]
    gi_wp2
    refine hK _ _ ((KeepsOthers.alloc _ _).from _) ((Below.refl _ W).alloc h1.size _) ⟨⟨h1.alloc h1.size _, by simp; omega, fun k h1 h7 h8 => (Below.heap_alloc W _ k (by omega)).trans (h3 k h1 h7 h8)⟩, h4.alloc _, sd, sn, sc, h5.alloc _, h6.alloc _⟩ ⟨W.heap.size, h2, Boxed.new W _ _, rfl⟩
  case body =>
    rintro l pre x a' W hl ⟨r, hr⟩ ⟨⟨h1, h2, h3⟩, h4, sd, sn, sc, h5, h6⟩ ⟨Bv, hBv, bV, rfl⟩ hlt
    have hn0 : 0 < n := by omega
    have hxn : x.1 % n < n := Nat.mod_lt _ hn0
    obtain ⟨hst, hsl⟩ := foldN_lt zs n v0 hn0 pre
    have hol := h4.rd.lenI
    have hsn := h6.rd.len
    rw [N64_len] at hsn
    obtain ⟨so, hso⟩ : ∃ so, foldN zs n v0 pre = so := ⟨_, rfl⟩
    rw [hso] at h4 h6 hst hsl hol hsn
    obtain ⟨st, outs⟩ := so
    have HSO := Lib.hid hso; clear hso
    dsimp only at h4 h6 hst hsl hol hsn
    have bLW : Boxed W B 28 (.slice ad n cap) := (h3 B (by omega) (by omega) (by omega)).trans bL
    have bNW : Boxed W (B + 1) 3 (.int .i64 v0) := (h3 _ (by omega) (by omega) (by omega)).trans bN
    have bOW : Boxed W S 28 (.slice (some ⟨B + 1 + 1, 0, none⟩) n n) := (h3 _ (by omega) (by omega) (by omega)).trans bO
    have bUW : Boxed W (S + 1 + 1) 73 (.func (.func 44) #[.pointer (some ⟨S + 1, 0, none⟩)] #[]) := (h3 _ (by omega) (by omega) (by omega)).trans bU
    have bPW : Boxed W (S + 1 + 1 + 1) 74 (.func (.func 45) #[.pointer (some ⟨S + 1, 0, none⟩)] #[]) := (h3 _ (by omega) (by omega) (by omega)).trans bP
    have hzW : Rd W 1 ad n cap (I64 zs) := hz.below h1
    have hzb : ∀ a, ad = some a → a.block < B := fun a ha => by
      have h := (hz.getI hn0).2
      subst ha
      have := World.block_lt_of_cell? w _ h
      rw [sAt_some, add_block] at this; omega
    have hpop := pop_law W.drew (S + 1) B Bv (S + 4) sd sn sc st h5 h6.drew (by omega) ad n cap zs x.2 v0 bLW.cell bV.cell hzW.drew (fun a ha => by have := hzb a ha; omega) (by omega) (by omega) (fun i hi => hst _ (by
      rw [List.getD_eq_getElem?_getD, List.getElem?_eq_getElem (by omega)]; exact List.getElem_mem _))
    have hpop' : Calls Try.prog 45 #[.pointer (some ⟨S + 1, 0, none⟩), .func (.func 46) #[] #[.pointer (some ⟨B, 0, none⟩), .pointer (some ⟨Bv, 0, none⟩)], .int .i64 v0] W.drew fun e w2 =>
        ∃ rr, e = .returned (.int .i64 rr) ∧ Hid (rr = if cutAt zs x.2 st st.length = 0 then v0 else (st.getD (cutAt zs x.2 st st.length - 1) 0 : Nat)) ∧ Boxed w2 (S + 1) 72 (.slice sd (cutAt zs x.2 st st.length) sc) ∧ W.grownBy w2 (some (S + 1)) ∧ Hid (w2.heap.size = W.heap.size) ∧
          w2.cell? ⟨S, 0, none⟩ = some (.slice (some ⟨B + 1 + 1, 0, none⟩) n n) ∧ w2.cell? ⟨B + 1 + 1, x.1 % n, none⟩ = some (.int .i64 (atI outs (x.1 % n))) ∧ w2.frozen? ⟨B + 1 + 1, x.1 % n, none⟩ = false ∧ w2.cell? ⟨B + 1, 0, none⟩ = some (.int .i64 v0) ∧ w2.cell? ⟨S + 1 + 1 + 1, 0, none⟩ = some (.func (.func 45) #[.pointer (some ⟨S + 1, 0, none⟩)] #[]) ∧ w2.cell? ⟨S + 1 + 1, 0, none⟩ = some (.func (.func 44) #[.pointer (some ⟨S + 1, 0, none⟩)] #[]) := hpop.mono (by
      rintro e w2 ⟨j, hj, rfl, q1, q2, q3, q4, q5⟩
      have hcut : cutAt zs x.2 st st.length = j := cutAt_of zs x.2 st j st.length (by omega) (fun i a b => q4 i a (by omega)) q5
      rw [hcut]
      have q2' : W.grownBy w2 (some (S + 1)) := ⟨q2.os, q2.tape, q2.output, q2.size, q2.block⟩
      have h4' := h4.other q2' (fun g hg => by simp at hg ⊢; omega)
      have h8 := h4'.read (I64_get outs (x.1 % n) (by omega))
      exact ⟨_, rfl, rfl, q1, q2', q3, (bOW.kept q2' (by simp <;> omega)).cell, h8.1, h8.2, (bNW.kept q2' (by simp <;> omega)).cell, (bPW.kept q2' (by simp <;> omega)).cell, (bUW.kept q2' (by simp <;> omega)).cell⟩)
    have hN := bNW.cell
    have hO := bOW.cell
    have hP := bPW.cell
    have fB := bPW.frozen
    have q3 := Lib.hid h3; clear h3
    have q4 := Lib.hid h4; clear h4
    have q6 := Lib.hid h6; clear h6
    have qst := Lib.hid hst; clear hst
    have qsl := Lib.hid hsl; clear hsl
    have qol := Lib.hid hol; clear hol
    have qsn := Lib.hid hsn; clear hsn
    have qzb := Lib.hid hzb; clear hzb
    have qr := Lib.hid hr; clear hr
    have qB := Lib.hid hB; clear hB
    have qz0 := Lib.hid hsz0; clear hsz0
    have qpop := Lib.hid hpop'; clear hpop'
    generalize hxi : x.1 % n = xi at *
    have qxi := Lib.hid hxi; clear hxi
    clear hSB hpop hseq eg fB
    gi_wp2_with fail
    refine regionS (fun w' => w'.cell? ⟨S, 0, none⟩ = some (.slice (some ⟨B + 1 + 1, 0, none⟩) n n) ∧ w'.cell? ⟨B + 1, 0, none⟩ = some (.int .i64 v0) ∧ w'.cell? ⟨S + 1 + 1 + 1, 0, none⟩ = some (.func (.func 45) #[.pointer (some ⟨S + 1, 0, none⟩)] #[])) (by kernel_rfl) ?_
    have hSS : (fun w' : World => w'.cell? ⟨S, 0, none⟩ = some (.slice (some ⟨B + 1 + 1, 0, none⟩) n n) ∧ w'.cell? ⟨B + 1, 0, none⟩ = some (.int .i64 v0) ∧ w'.cell? ⟨S + 1 + 1 + 1, 0, none⟩ = some (.func (.func 45) #[.pointer (some ⟨S + 1, 0, none⟩)] #[])) W.drew := ⟨hO, hN, hP⟩
    refine AnyS.take (i := 0) (v := ?_) rfl (by kernel_rfl) (by kernel_rfl) (by kernel_rfl) (by kernel_rfl) (fun _ _ _ h => h) (by assumption) (by rfl) (fun _ => rfl) ?_ ?_
    rotate_left
    focus (intro w hSw; (try dsimp only at hSw); go_split_ands; go_simp; (try with_reducible rfl))
    (try simp only [Act.put, List.setIfInBounds_toArray, List.set_cons_zero, List.set_cons_succ, Array.setIfInBounds_toArray])
    refine AnyS.take (i := 1) (v := ?_) rfl (by kernel_rfl) (by kernel_rfl) (by kernel_rfl) (by kernel_rfl) (fun _ _ _ h => h) (by assumption) (by rfl) (fun _ => rfl) ?_ ?_
    rotate_left
    focus (intro w hSw; (try dsimp only at hSw); go_split_ands; go_simp; (try with_reducible rfl))
    (try simp only [Act.put, List.setIfInBounds_toArray, List.set_cons_zero, List.set_cons_succ, Array.setIfInBounds_toArray])
    refine AnyS.take (i := 2) (v := ?_) rfl (by kernel_rfl) (by kernel_rfl) (by kernel_rfl) (by kernel_rfl) (fun _ _ _ h => h) (by assumption) (by rfl) (fun _ => rfl) ?_ ?_
    rotate_left
    focus (intro w hSw; (try dsimp only at hSw); go_split_ands; go_simp; (try with_reducible rfl))
    (try simp only [Act.put, List.setIfInBounds_toArray, List.set_cons_zero, List.set_cons_succ, Array.setIfInBounds_toArray])
    refine AnyS.take (i := 3) (v := ?_) rfl (by kernel_rfl) (by kernel_rfl) (by kernel_rfl) (by kernel_rfl) (fun _ _ _ h => h) (by assumption) (by rfl) (fun _ => rfl) ?_ ?_
    rotate_left
    focus (intro w hSw; (try dsimp only at hSw); go_split_ands; go_simp; (try with_reducible rfl))
    (try simp only [Act.put, List.setIfInBounds_toArray, List.set_cons_zero, List.set_cons_succ, Array.setIfInBounds_toArray])
    refine AnyS.take (i := 4) (v := ?_) rfl (by kernel_rfl) (by kernel_rfl) (by kernel_rfl) (by kernel_rfl) (fun _ _ _ h => h) (by assumption) (by rfl) (fun _ => rfl) ?_ ?_
    rotate_left
    focus (intro w hSw; (try dsimp only at hSw); go_split_ands; go_simp; (try with_reducible rfl))
    (try simp only [Act.put, List.setIfInBounds_toArray, List.set_cons_zero, List.set_cons_succ, Array.setIfInBounds_toArray])
    refine AnyS.only (i := 5) (by kernel_rfl) rfl (by rfl) (fun K hK => ?_)
    go_simp
    gi_wp2_with (refine ⟨trivial, ?_⟩; gi_at_call 45; refine (CallsIn.inRound l (callsIn_wide.2 qpop.out)).mono ?_; rintro e w2 ⟨rr, rfl, hrr, g1, g2, g3, g4, g5, g6, g7, g8, g9⟩)
    refine hK.out _ _ ⟨g4, g7, g8⟩ ?_
    clear hK K
    refine AnyS.only (i := 6) (by kernel_rfl) rfl (by rfl) (fun K hK => ?_)
    go_simp
    refine hK.out _ _ ⟨g4, g7, g8⟩ ?_
    clear hK K
    refine AnyS.only (i := 7) (by kernel_rfl) rfl (by rfl) (fun K hK => ?_)
    go_simp
    have hSB := HSB.out
    refine hK.out _ _ ⟨(World.cell?_setCell_far _ _ _ _ (by simp; omega)).trans g4, (World.cell?_setCell_far _ _ _ _ (by simp)).trans g7, (World.cell?_setCell_far _ _ _ _ (by simp; omega)).trans g8⟩ ?_
    clear hK K
    refine AnyS.done (by kernel_rfl) ?_ _
    -- what the world is behind the region
    have hj := cutAt_le zs x.2 st st.length
    have e3 := q3.out
    have esn := qsn.out
    have eol := qol.out
    have esl := qsl.out
    have eB := qB.out
    have e0 := qz0.out
    have e2 := g3.out
    have f6 : Own w2 3 1 (S + 4) sd (cutAt zs x.2 st st.length) sc (N64 (st.take (cutAt zs x.2 st st.length))) := by
      have h := (q6.out.shrink (j := cutAt zs x.2 st st.length) (by omega)).other g2 (fun g hg => by have := q6.out.blk hg; simp; omega)
      rw [Nat.mul_one, N64_take] at h; exact h
    have f4 : Own w2 3 1 (B + 2) (some ⟨B + 2, 0, none⟩) n n (I64 outs) := q4.out.other g2 (fun g hg => by simp at hg ⊢; omega)
    have f5 := f4.set xi (.int .i64 rr) rfl
    rw [show (I64 outs).set xi (.int .i64 rr) = I64 (outs.set xi rr) by simp [I64, List.map_set]] at f5
    have f7 := f6.setOther ⟨B + 1 + 1, xi, none⟩ (.int .i64 rr) (fun g hg => by have := f6.blk hg; simp; omega)
    have g1' : Boxed (w2.setCell ⟨B + 1 + 1, xi, none⟩ (.int .i64 rr)) (S + 1) 72 (.slice sd (cutAt zs x.2 st st.length) sc) := by
      have := Below.heap_setCell w2 ⟨B + 1 + 1, xi, none⟩ (.int .i64 rr) (S + 1) (by simp; omega)
      exact this.trans g1
    have g9' : (w2.setCell ⟨B + 1 + 1, xi, none⟩ (.int .i64 rr)).cell? ⟨S + 1 + 1, 0, none⟩ = some (.func (.func 44) #[.pointer (some ⟨S + 1, 0, none⟩)] #[]) := (World.cell?_setCell_far _ _ _ _ (by simp; omega)).trans g9
    have hpush := push_law (w2.setCell ⟨B + 1 + 1, xi, none⟩ (.int .i64 rr)) (S + 1) (S + 4) sd (cutAt zs x.2 st st.length) sc xi (st.take (cutAt zs x.2 st st.length)) g1' f7 (by omega) (by simp; omega) (by omega)
    have k1 : Below w.heap.size W (w2.setCell ⟨B + 1 + 1, xi, none⟩ (.int .i64 rr)) := ((Below.refl _ W).grown g2 h1.size (fun k hk => by cases hk; omega)).setCell (by simp; omega) _
    have k2 : KeepsFrom W0.heap.size W (w2.setCell ⟨B + 1 + 1, xi, none⟩ (.int .i64 rr)) := (KeepsFrom.of_grownBy g2 (fun j hj => by cases hj; omega)).trans ((KeepsOthers.setCell _ _ _).from _)
    have k3 : ∀ k, k < S + 4 → k ≠ S + 1 → k ≠ B + 2 → (w2.setCell ⟨B + 1 + 1, xi, none⟩ (.int .i64 rr)).heap[k]? = W0.heap[k]? := fun k a1 a2 a3 => (Below.heap_setCell w2 ⟨B + 1 + 1, xi, none⟩ (.int .i64 rr) k (by simp; omega)).trans ((g2.block k (by omega) (by simp; omega)).trans (e3 k a1 a2 a3))
    have k4 : S + 4 ≤ (w2.setCell ⟨B + 1 + 1, xi, none⟩ (.int .i64 rr)).heap.size := by simp; omega
    have qpush := Lib.hid hpush; clear hpush
    have Q1 := Lib.hid k1; clear k1
    have Q2 := Lib.hid k2; clear k2
    have Q3 := Lib.hid k3; clear k3
    have Q4 := Lib.hid k4; clear k4
    have Q5 := Lib.hid f5; clear f5
    have Q6 := Lib.hid f7; clear f7
    clear f4 f6 hSB hj e3 esn eol esl eB e0 e2 hN hO hP g4 g5 g6 g7 g8 g9 hSS
    generalize w2.setCell ⟨B + 1 + 1, xi, none⟩ (.int .i64 rr) = w3 at *
    gi_wp2_with (refine ⟨trivial, ?_⟩; gi_at_call 44; refine (CallsIn.inRound l (callsIn_wide.2 qpush.out)).mono ?_; rintro e w5 ⟨⟨vv, rfl⟩, ad', cap', w4, m1, m2, m3, m4⟩)
    have b6 := fun g hg => (Q6.out.blk (g := g) hg)
    have hnb : ∀ k, k < S + 4 → some k ≠ bOf sd := fun k hk e => by
      obtain ⟨_, hc⟩ := Q6.out.cases
      rcases hc with ⟨h, _⟩ | ⟨g, cur, h, hb, _⟩
      · rw [h] at e; cases e
      · rw [h] at e; simp [bOf] at e; omega
    have e0 := qz0.out
    have eB := qB.out
    have eSB := HSB.out
    have e4 := Q4.out
    have hsz45 : w3.heap.size ≤ w4.heap.size := m3.size
    have hsz5 : w4.heap.size ≤ w5.heap.size := m4.size
    have p1 : Below w.heap.size w3 w5 := ((Below.refl _ w3).grown m3 (by omega) (fun k hk => by
        rcases Nat.lt_or_ge k (S + 4) with h | h
        · exact absurd hk.symm (hnb k h)
        · omega)).grown m4 (by omega) (fun k hk => by cases hk; omega)
    have p2 : KeepsFrom W0.heap.size w3 w5 := ((KeepsOthers.of_grownBy m3 (fun j o hj ho => by
        obtain ⟨_, hc⟩ := Q6.out.cases
        rcases hc with ⟨h, _⟩ | ⟨g, cur, h, hb, _⟩
        · rw [h] at hj; cases hj
        · rw [h] at hj; cases hj; exact Q6.out.isCells h ho)).from _).trans (KeepsFrom.of_grownBy m4 (fun j hj => by cases hj; omega))
    refine ⟨Q2.out.trans p2, Q1.out.trans p1, ⟨(h1.trans Q1.out).trans p1, by omega, fun k a1 a2 a3 => ?_⟩, ?_, ad', _, cap', m1, ?_⟩
    · exact (m4.block k (by omega) (by simp; omega)).trans ((m3.block k (by omega) (hnb k a1)).trans (Q3.out k a1 a2 a3))
    · rw [foldN_snoc, HSO.out]
      simp only [stepN]
      rw [qxi.out, ← hrr.out]
      exact (Q5.out.other m3 (fun g hg => by simp at hg; subst hg; exact fun e => hnb _ (by omega) e.symm)).other m4 (fun g hg => by simp at hg ⊢; omega)
    · rw [foldN_snoc, HSO.out]
      simp only [stepN]
      rw [qxi.out]
      exact m2
  case done =>
    rintro D ys W hD rfl ⟨⟨h1, h2, h3⟩, h4, sd, sn, sc, h5, h6⟩ hK
    have bOW : Boxed W S 28 (.slice (some ⟨B + 1 + 1, 0, none⟩) n n) := (h3 _ (by omega) (by omega) (by omega)).trans bO
    have hO := bOW.cell
    have q3 := Lib.hid h3; clear h3
    have q4 := Lib.hid h4; clear h4
    clear hSB
    gi_wp2
    refine ⟨by simp, .inl ⟨_, _, rfl, run_takeDeferred hK, ?_⟩⟩
    have hSB := HSB.out
    refine ⟨_, results_tmp rfl _ _ _, B + 1 + 1, rfl, ?_, h1.trans (belowK_b (w := w) (Nat.le_refl _) W D _ _ (by omega) hK rfl rfl)⟩
    refine (q4.out.lower (lo' := w.heap.size) (by omega)).keep fun g hg => ?_
    refine World.putObj_heap_other ?_
    intro e
    simp at hg <;> omega
  case stop =>
    rintro D c pre W hD _ h
    exact h.elim


theorem I64_length_fold (zs : List Int) (n : Nat) (v0 : Int) (pre : List (Nat × Int)) : (foldN zs n v0 pre).2.length = n := by
  unfold foldN
  suffices h : ∀ (pre : List (Nat × Int)) (s : List Nat × List Int), s.2.length = n → (pre.foldl (stepN zs n v0) s).2.length = n by exact h pre _ (by simp)
  intro pre
  induction pre with
  | nil => intro s hs; exact hs
  | cons x pre ih => intro s hs; exact ih _ (by simp [stepN, hs])

/-- what near.Ahead computes -/
def aheadL (zs : List Int) : List Int := (foldN zs zs.length (-1) (upto (fun j => (j, atI zs j)) zs.length)).2
/-- what near.Behind computes -/
def behindL (zs : List Int) : List Int := (foldN zs zs.length zs.length (upto (fun j => (zs.length - 1 - j, atI zs (zs.length - 1 - j))) zs.length)).2
theorem aheadL_len (zs : List Int) : (aheadL zs).length = zs.length := I64_length_fold _ _ _ _
theorem behindL_len (zs : List Int) : (behindL zs).length = zs.length := I64_length_fold _ _ _ _

set_option maxHeartbeats 1000000 in
theorem ahead_law (w : World) (ad : Option Addr) (n cap : Nat) (zs : List Int) (hz : Rd w 1 ad n cap (I64 zs)) (hn : n ≤ 100000) :
    Calls Try.prog 22 #[.slice ad n cap] w fun e w' => ∃ g, e = .returned (.slice (some ⟨g, 0, none⟩) n n) ∧ Own w' 3 1 w.heap.size (some ⟨g, 0, none⟩) n n (I64 (aheadL zs)) ∧ Below w.heap.size w w' := by
  have hl := hz.lenI
  have HL := Lib.hid hl; clear hl
  have hbl : ∀ a, ad = some a → 0 < n → a.block < w.heap.size := fun a ha h0 => by
    have h := (hz.getI h0).2
    subst ha
    have := World.block_lt_of_cell? w _ h
    rw [sAt_some, add_block] at this; omega
  have HB := Lib.hid hbl; clear hbl
  go_enter Try.func22, Try.ntmps22
  go_wp2_with fail
  refine (all_any w ad n cap).mono ?_
  rintro e w1 ⟨rfl, rfl⟩
  go_wp2_with fail
  have hbx := Boxed.new w 28 (.slice ad n cap)
  refine (nearest_law _ ad n cap zs (hz.alloc _) hn (-1) _ _ (fun j => (j, atI zs j)) (enters_of Try.func47 (by kernel_rfl) rfl) (fun W hW => all_stops 8 w.heap.size _ (by omega) ad n cap zs W (fun a ha h0 => by have := HB.out a ha h0; simp; omega) hW.size (by simp) ((hW.cell (p := ⟨w.heap.size, 0, none⟩) (by simp)).trans hbx.cell) ((hz.alloc _).below hW))).mono ?_
  rintro e w2 ⟨g, rfl, ho, hb⟩
  go_wp2_with fail
  go_ret
  refine ⟨g, rfl, ?_, ((Below.refl _ w).alloc (Nat.le_refl _) _).trans (hb.mono (by simp))⟩
  unfold aheadL
  rw [HL.out]
  exact ho.lower (by simp)
set_option maxHeartbeats 1000000 in
theorem behind_law (w : World) (ad : Option Addr) (n cap : Nat) (zs : List Int) (hz : Rd w 1 ad n cap (I64 zs)) (hn : n ≤ 100000) :
    Calls Try.prog 23 #[.slice ad n cap] w fun e w' => ∃ g, e = .returned (.slice (some ⟨g, 0, none⟩) n n) ∧ Own w' 3 1 w.heap.size (some ⟨g, 0, none⟩) n n (I64 (behindL zs)) ∧ Below w.heap.size w w' := by
  have hl := hz.lenI
  have HL := Lib.hid hl; clear hl
  have hbl : ∀ a, ad = some a → 0 < n → a.block < w.heap.size := fun a ha h0 => by
    have h := (hz.getI h0).2
    subst ha
    have := World.block_lt_of_cell? w _ h
    rw [sAt_some, add_block] at this; omega
  have HB := Lib.hid hbl; clear hbl
  go_enter Try.func23, Try.ntmps23
  go_wp2_with fail
  refine (back_any w ad n cap).mono ?_
  rintro e w1 ⟨rfl, rfl⟩
  go_wp2_with fail
  have hbx := Boxed.new w 28 (.slice ad n cap)
  refine (nearest_law _ ad n cap zs (hz.alloc _) hn n _ _ (fun j => (n - 1 - j, atI zs (n - 1 - j))) (enters_of Try.func48 (by kernel_rfl) rfl) (fun W hW => back_stops 8 w.heap.size _ (by omega) ad n cap zs W (fun a ha h0 => by have := HB.out a ha h0; simp; omega) hW.size (by simp) ((hW.cell (p := ⟨w.heap.size, 0, none⟩) (by simp)).trans hbx.cell) ((hz.alloc _).below hW))).mono ?_
  rintro e w2 ⟨g, rfl, ho, hb⟩
  go_wp2_with fail
  go_ret
  refine ⟨g, rfl, ?_, ((Below.refl _ w).alloc (Nat.le_refl _) _).trans (hb.mono (by simp))⟩
  unfold behindL
  rw [HL.out]
  exact ho.lower (by simp)
end Go.Proofs.Ytnlemaaglbbdnaa
