/- rotate.walk: the iterator; rotate.Back: the loop over it; the document's Back. -/
import Derived.Test.YtjjdckbdjmbndaaRotA
import Derived.Test.YtjjdckbdjmbndaaRegL
import Derived.Test.YtjjdckbdjmbndaaSufJ
namespace Go.Proofs.Ytjjdckbdjmbndaa
set_option linter.unusedSimpArgs false
set_option linter.unusedVariables false
open Go.RowKit Go.Shelf
attribute [local go_sem] Oper.semAt_some

/-- one element -/
def atE (W : List Nat) (p k : Nat) : Array Value := #[.int .i64 ((seqAt W p (k + 1) : Nat) : Int)]

set_option maxRecDepth 100000 in
set_option maxHeartbeats 2000000 in
theorem walk1_in (m l Bw Ba g : Nat) (hm : 1 ≤ m) (n : Nat) (Wl : List Nat) (p : Nat) (hn : n ≤ 100000) (hW : ∀ k, seqAt Wl p k < n) (hab : Ba ≠ Bw) (hag : Ba ≠ g) (J Jx : Nat → World → Prop) (hJ : AbW (fun r => r = Ba) J)
    (hY : ∀ k W1, J k W1 → k < n → YieldAt Fence.wide (m - 1) Try.prog l (atE Wl p k) W1 fun e W' =>
      (e = .returned (.bool true) ∧ J (k + 1) W' ∧ KeepB (fun r => r = Bw ∨ r = Ba ∨ r = g) W1 W') ∨ (e = .returned (.bool false) ∧ Jx (k + 1) W'))
    (W : World) (hBw : Boxed W Bw 34 (.slice (some ⟨g, 0, none⟩) n n)) (hBa : Boxed W Ba 3 (.int .i64 (p : Int))) (hc : Own W 3 1 0 (some ⟨g, 0, none⟩) n n (N64 Wl)) (h0 : J 0 W) :
    CallsIn Fence.wide m Try.prog 23 #[.func (.yield l) #[] #[], .pointer (some ⟨Bw, 0, none⟩), .pointer (some ⟨Ba, 0, none⟩)] W fun e W' => (∃ v, e = .returned v) ∧
      (J n W' ∨ ∃ k, k ≤ n ∧ Jx k W') := by
  refine callsIn_of_wp Try.func23 rfl trivial ?_ rfl
  simp only [Try.ntmps23, List.size_toArray, List.length_cons, List.length_nil, Nat.reduceAdd, Nat.reduceSub, Array.replicate_succ, Array.replicate_zero, List.push_toArray, List.append_toArray, List.nil_append, List.cons_append]
  have cW := hBw.cell
  gi_wp2
  clear cW
  gi_loopw [6] (fun i wr => ∃ k : Nat, k ≤ n ∧ i = .int .i64 k ∧ J k wr ∧ Boxed wr Bw 34 (.slice (some ⟨g, 0, none⟩) n n) ∧ Boxed wr Ba 3 (.int .i64 ((seqAt Wl p k : Nat) : Int)) ∧ Own wr 3 1 0 (some ⟨g, 0, none⟩) n n (N64 Wl))
    (fun i _ => n - (intOf i).toNat)
  case atStart => exact ⟨0, Nat.zero_le _, rfl, h0, hBw, hBa, hc⟩
  case round =>
    clear h0 hBw hBa hc
    obtain ⟨k, hk, rfl, hJs, hbw, hba, hoc⟩ := hrel
    by_cases hlt : k < n
    · have hs := hW k
      have hs1 := hW (k + 1)
      have e1 : seqAt Wl p (k + 1) = atN Wl (seqAt Wl p k) := rfl
      obtain ⟨c, _⟩ := hoc.getN hs
      rw [← e1] at c
      have hj2 : J k (wr.setCell ⟨Ba, 0, none⟩ (.int .i64 ((seqAt Wl p (k + 1) : Nat) : Int))) := hJ k wr _ (some Ba) hJs (grownBy_setCell' wr Ba _) (fun r e => by cases e; rfl)
      have hbw2 : Boxed (wr.setCell ⟨Ba, 0, none⟩ (.int .i64 ((seqAt Wl p (k + 1) : Nat) : Int))) Bw 34 (.slice (some ⟨g, 0, none⟩) n n) := hbw.other (Ne.symm hab) _
      have hba2 : Boxed (wr.setCell ⟨Ba, 0, none⟩ (.int .i64 ((seqAt Wl p (k + 1) : Nat) : Int))) Ba 3 (.int .i64 ((seqAt Wl p (k + 1) : Nat) : Int)) := hba.set _
      have hoc2 := hoc.setOther ⟨Ba, 0, none⟩ (.int .i64 ((seqAt Wl p (k + 1) : Nat) : Int)) (fun x hx => by simp at hx ⊢; omega)
      obtain ⟨fn, tmps, assign, body, hy, hR⟩ := hY k _ hj2 hlt
      dsimp only [atE] at hy
      have cw := hbw.cell
      have ca := hba.cell
      have fa := hba.frozen
      have ca2 := hba2.cell
      have HE := Lib.hid e1; clear e1
      have HB2 := Lib.hid hbw2; clear hbw2
      have HA2 := Lib.hid hba2; clear hba2
      have HO2 := Lib.hid hoc2; clear hoc2
      generalize hv1 : seqAt Wl p (k + 1) = v1 at *
      have HV := Lib.hid hv1; clear hv1
      generalize seqAt Wl p k = v0 at *
      clear hJs hbw hba hoc hj2
      gi_wp2
      refine hR.mono ?_
      rintro e W3 (⟨rfl, hJ3, hk3⟩ | ⟨rfl, hJx3⟩)
      · have hbw3 : Boxed W3 Bw 34 (.slice (some ⟨g, 0, none⟩) n n) := (hk3 Bw (.inl rfl)).trans HB2.out
        have hba3 : Boxed W3 Ba 3 (.int .i64 (v1 : Int)) := (hk3 Ba (.inr (.inl rfl))).trans HA2.out
        have hoc3 : Own W3 3 1 0 (some ⟨g, 0, none⟩) n n (N64 Wl) := HO2.out.keep fun x hx => by cases hx; exact hk3 g (.inr (.inr rfl))
        gi_wp2
        go_roundw
        case rel => exact ⟨k + 1, by omega, by simp, hJ3, hbw3, by rw [HV.out]; exact hba3, hoc3⟩
        case measure => simp [intOf]; omega
      · gi_wp2
        refine bodyPost_ret (results_none rfl _ _ _) rfl ?_
        exact ⟨⟨_, rfl⟩, .inr ⟨_, by omega, hJx3⟩⟩
    · obtain rfl : k = n := by omega
      gi_wp2
      go_end0
      exact ⟨⟨_, rfl⟩, .inl hJs⟩

theorem walk_any (w : World) (ad : Option Addr) (n cap : Nat) (at0 : Int) :
    Calls Try.prog 17 #[.slice ad n cap, .int .i64 at0] w fun e w' => e = .returned (.func (.func 23) #[] #[.pointer (some ⟨w.heap.size, 0, none⟩), .pointer (some ⟨w.heap.size + 1, 0, none⟩)]) ∧ (w.alloc (.cells #[.slice ad n cap] 34)).alloc (.cells #[.int .i64 at0] 3) = w' := by
  go_enter Try.func17, Try.ntmps17
  go_wp2
  go_ret
  exact ⟨rfl, rfl⟩

theorem walk_seq (m g : Nat) (hm : 1 ≤ m) (n : Nat) (Wl : List Nat) (p : Nat) (hn : n ≤ 100000) (hW : ∀ k, seqAt Wl p k < n) (w : World) (Bw Ba : Nat) (hab : Ba ≠ Bw) (hag : Ba ≠ g)
    (hBw : Boxed w Bw 34 (.slice (some ⟨g, 0, none⟩) n n)) (hBa : Boxed w Ba 3 (.int .i64 (p : Int))) (hc : Own w 3 1 0 (some ⟨g, 0, none⟩) n n (N64 Wl)) :
    SeqN Fence.wide m Try.prog 23 #[.pointer (some ⟨Bw, 0, none⟩), .pointer (some ⟨Ba, 0, none⟩)] (atE Wl p) (fun r => r = Bw ∨ r = Ba ∨ r = g) (fun r => r = Ba) n w :=
  fun l J Jx W hW2 _ hJ _ hY h0 => walk1_in m l Bw Ba g hm n Wl p hn hW hab hag J Jx hJ hY W ((hW2.block _ hBw.lt).trans hBw) ((hW2.block _ hBa.lt).trans hBa) (hc.below hW2) h0

set_option maxRecDepth 100000 in
set_option maxHeartbeats 4000000 in
theorem back_law (w : World) (ad : Option Addr) (n cap : Nat) (b : List UInt8) (hb : Rd w 1 ad n cap (B8 b)) (hn : n ≤ 100000) (at0 : Int) :
    Calls Try.prog 12 #[.slice ad n cap, .int .i64 at0] w fun e w' => Below w.heap.size w w' ∧
      ((¬ (0 ≤ at0 ∧ at0 < n) ∧ e = .returned (.tuple #[.slice none 0 0, .int .i64 2])) ∨
       (∃ (p : Nat) (a : Option Addr) (c : Nat), at0 = (p : Int) ∧ p < n ∧ e = .returned (.tuple #[.slice a n c, .int .i64 0]) ∧ Own w' 5 1 w.heap.size a n c (B8 (backL b p)))) := by
  have hl := hb.len8
  have HL := Lib.hid hl; clear hl
  by_cases hlo : at0 < 0
  · have hb1 : Below w.heap.size w (w.alloc (.cells #[.slice ad n cap] 22)) := (Below.refl _ w).alloc (Nat.le_refl _) _
    go_enter Try.func12, Try.ntmps12
    go_wp2
    refine bodyPost_ret (results_tmp2 rfl _ _ _) rfl ?_
    exact ⟨hb1, .inl (by first | exact ⟨by omega, rfl⟩ | rfl)⟩
  by_cases hhi : (n : Int) ≤ at0
  · have hb1 : Below w.heap.size w (w.alloc (.cells #[.slice ad n cap] 22)) := (Below.refl _ w).alloc (Nat.le_refl _) _
    go_enter Try.func12, Try.ntmps12
    go_wp2
    refine bodyPost_ret (results_tmp2 rfl _ _ _) rfl ?_
    exact ⟨hb1, .inl (by first | exact ⟨by omega, rfl⟩ | rfl)⟩
  obtain ⟨p, rfl⟩ : ∃ p : Nat, at0 = (p : Int) := ⟨at0.toNat, by omega⟩
  have hp : p < n := by omega
  refine (callsIn_wide (n := 9)).1 ?_
  refine callsIn_of_wp_marks Try.func12 rfl trivial ?_ rfl
  simp only [Try.ntmps12, List.size_toArray, List.length_cons, List.length_nil, Nat.reduceAdd, Nat.reduceSub, Array.replicate_succ, Array.replicate_zero, List.push_toArray, List.append_toArray, List.nil_append, List.cons_append]
  have hz : ∀ w : World, (zeroValue 22).run Try.prog w = .ok (.slice none 0 0) w := fun w => by kernel_rfl
  have c2 : Below w.heap.size w ((w.alloc (.cells #[.slice ad n cap] 22)).alloc (.cells #[.slice none 0 0] 22)) := ((Below.refl _ w).alloc (Nat.le_refl _) _).alloc (by simp) _
  have hrb := hb.below c2
  gi_wp2_with (first
    | (refine ⟨trivial, ?_⟩; gi_at_call 18; refine (callsIn_wide.2 (way_law _ ad n cap b hrb hn)).mono ?_; rintro e w3 ⟨g, rfl, og, b3⟩)
    | (refine ⟨trivial, ?_⟩; gi_at_call 17; refine (callsIn_wide.2 (walk_any _ _ _ _ _)).mono ?_; rintro e w4 ⟨rfl, rfl⟩))
  obtain ⟨B, hB⟩ : ∃ B, w.heap.size = B := ⟨_, rfl⟩
  have sz2 : ((w.alloc (.cells #[.slice ad n cap] 22)).alloc (.cells #[.slice none 0 0] 22)).heap.size = B + 2 := by simp [hB]
  have bx0 : Boxed ((w.alloc (.cells #[.slice ad n cap] 22)).alloc (.cells #[.slice none 0 0] 22)) B 22 (.slice ad n cap) := by rw [← hB]; exact (Boxed.new w _ _).alloc _
  have bx1 : Boxed ((w.alloc (.cells #[.slice ad n cap] 22)).alloc (.cells #[.slice none 0 0] 22)) (B + 1) 22 (.slice none 0 0) := by
    have := Boxed.new (w.alloc (.cells #[.slice ad n cap] 22)) 22 (.slice none 0 0)
    simpa [hB] using this
  rw [sz2] at og b3
  rw [hB] at c2 ⊢
  have HB := Lib.hid hB; clear hB
  generalize ((w.alloc (.cells #[.slice ad n cap] 22)).alloc (.cells #[.slice none 0 0] 22)) = w2 at *
  have s23 : B + 2 ≤ w3.heap.size := by have := b3.size; omega
  have d0 : Boxed w3 B 22 (.slice ad n cap) := (b3.block B (by omega)).trans bx0
  have d1 : Boxed w3 (B + 1) 22 (.slice none 0 0) := (b3.block (B + 1) (by omega)).trans bx1
  have c3 : Below B w w3 := c2.trans (b3.mono (by omega))
  have hg := og.blk rfl
  obtain ⟨M, hM⟩ : ∃ M, w3.heap.size = M := ⟨_, rfl⟩
  have e0 := (d0.alloc (.cells #[.slice (some ⟨g, 0, none⟩) n n] 34)).alloc (.cells #[.int .i64 (p : Int)] 3)
  have e1 := (d1.alloc (.cells #[.slice (some ⟨g, 0, none⟩) n n] 34)).alloc (.cells #[.int .i64 (p : Int)] 3)
  have e2 := (Boxed.new w3 34 (.slice (some ⟨g, 0, none⟩) n n)).alloc (.cells #[.int .i64 (p : Int)] 3)
  have e3 := Boxed.new (w3.alloc (.cells #[.slice (some ⟨g, 0, none⟩) n n] 34)) 3 (.int .i64 (p : Int))
  have e4 := (og.alloc (.cells #[.slice (some ⟨g, 0, none⟩) n n] 34)).alloc (.cells #[.int .i64 (p : Int)] 3)
  have c5 : Below B w ((w3.alloc (.cells #[.slice (some ⟨g, 0, none⟩) n n] 34)).alloc (.cells #[.int .i64 (p : Int)] 3)) := (c3.alloc (by omega) _).alloc (by simp; omega) _
  have sz5 : ((w3.alloc (.cells #[.slice (some ⟨g, 0, none⟩) n n] 34)).alloc (.cells #[.int .i64 (p : Int)] 3)).heap.size = M + 2 := by simp [hM]
  rw [World.size_alloc] at e3
  rw [hM] at e2 e3 hg s23 ⊢
  clear d0 d1 bx0 bx1 og b3 c2 c3 hrb hM sz2
  generalize ((w3.alloc (.cells #[.slice (some ⟨g, 0, none⟩) n n] 34)).alloc (.cells #[.int .i64 (p : Int)] 3)) = w5 at *
  have hlb : b.length = n := HL.out
  have hW : ∀ k, seqAt (wayL b) p k < n := fun k => by have := seqAt_lt b (p := p) (by omega) k; omega
  have hs5 := sz5
  have SZ5 := Lib.hid sz5; clear sz5
  have hseq := walk_seq 8 g (by omega) n (wayL b) p hn hW w5 M (M + 1) (by omega) (by omega) e2 e3 (e4.lower (Nat.zero_le _))
  clear hlb
  refine wpIn_rangeN rfl (by omega) (gf := 23) (lb := #[.pointer (some ⟨M, 0, none⟩), .pointer (some ⟨M + 1, 0, none⟩)]) rfl trivial (enters_of Try.func23 (by kernel_rfl) rfl) hseq
    (fun r hr => by rw [hs5]; omega) (fun r hr => by rw [hs5]; omega) (Below.refl _ _) (fun _ => rfl)
    (fun k W => Below B w W ∧ Boxed W B 22 (.slice ad n cap) ∧ ∃ a c, Boxed W (B + 1) 22 (.slice a k c) ∧ Own W 5 1 (M + 2) a k c (B8 (saidL b p k)) ∧ M + 2 ≤ W.heap.size)
    (fun _ _ _ => False) ?hI (fun _ _ _ _ _ hs _ _ => hs.elim) ?h0
    (fun k => { tmps := #[.slice ad n cap, .int .i64 p, .pointer (some ⟨B, 0, none⟩), undef, .slice none 0 0, .int .i64 0, .pointer (some ⟨B + 1, 0, none⟩), .int .i64 ((seqAt (wayL b) p (k + 1) : Nat) : Int), .int .i64 p, .bool false, .bool false, .int .i64 p, .slice ad n cap, .int .i64 n, .bool false, .bool false, .slice ad n cap, .slice (some ⟨g, 0, none⟩) n n, .int .i64 p, .func (.func 23) #[] #[.pointer (some ⟨M, 0, none⟩), .pointer (some ⟨M + 1, 0, none⟩)], .int .i64 ((seqAt (wayL b) p (k + 1) : Nat) : Int), undef, undef, undef, undef, undef, undef, undef, undef], defers := [] })
    ?assign ?body ?done ?stop
  case hI =>
    rintro k W W' row ⟨h1, h2, a, c, h3, h4, h5⟩ hgr hr
    refine ⟨Abide.below (B := w5.heap.size) (wr := fun r => r = M + 1) (by rw [HB.out]; exact Nat.le_refl _) (by omega) (fun r hr => by omega) k W W' row h1 hgr hr, Abide.boxed _ (fun _ => Value.slice ad n cap) (by omega) k W W' row h2 hgr hr,
      a, c, Abide.boxed _ (fun _ => Value.slice a k c) (by omega) k W W' row h3 hgr hr, h4.abide hgr hr (fun g hg => by have := (h4.blk hg).1; omega), Nat.le_trans h5 hgr.size⟩
  case h0 => exact ⟨c5, e0, none, 0, e1, by simp [saidL, B8]; exact Own.nil _ _ _ _, by omega⟩
  case assign =>
    intro l k W K hK
    dsimp only [atE]
    gi_wp2
    exact hK
  case body =>
    rintro l k W ⟨h1, h2, a, c, h3, h4, h5⟩ hk
    have hs := hW (k + 1)
    have h1w : Below w.heap.size w W := by rw [HB.out]; exact h1
    obtain ⟨nx, cx⟩ := (hb.below h1w).get8 hs
    have c0 := h2.cell
    have c1 := h3.cell
    have f1 := h3.frozen
    have hsuc := saidL_succ b p k
    obtain ⟨v, hv⟩ : ∃ v, seqAt (wayL b) p (k + 1) = v := ⟨_, rfl⟩
    rw [hv] at hs cx hsuc
    rw [hv]
    obtain ⟨x, hx⟩ : ∃ x, at8 b v = x := ⟨_, rfl⟩
    rw [hx] at cx hsuc
    have HSU := Lib.hid hsuc; clear hsuc
    have HX := Lib.hid hx; clear hx hv
    have hvn : (v : Int) < (n : Int) := by omega
    have h4d := h4.drew
    have h1d := h1.drew
    have h2d : Boxed W.drew B 22 (.slice ad n cap) := h2
    have h3d : Boxed W.drew (B + 1) 22 (.slice a k c) := h3
    have h5d : M + 2 ≤ W.drew.heap.size := h5
    have kd : KeepsFrom w5.heap.size W W.drew := (KeepsOthers.drew _).from _
    have md : KeepB (fun r => r = M ∨ r = M + 1 ∨ r = g) W W.drew := fun r _ => rfl
    obtain ⟨a', c', w', hrun, o', g', n'⟩ := push_run (P := Try.prog) elB 22 h4d (ys := [.int .u8 (x.toNat : Int)]) rfl (by simp [Value.oneCell']) (by unfold maxLen; omega) (by omega) h5d
    have hgx : ∀ j, j < M + 2 → w'.heap[j]? = W.drew.heap[j]? := fun j hj => g'.block j (by omega) (fun e => by
      obtain ⟨_, hc⟩ := h4d.cases
      rcases hc with ⟨h, _⟩ | ⟨x, cur, h, hb, _⟩
      · rw [h] at e; cases e
      · rw [h] at e; simp [bOf] at e; omega)
    have b' : Below B w w' := Own.grown h1d h4d g' (by omega) (by omega)
    have h2' : Boxed w' B 22 (.slice ad n cap) := (hgx B (by omega)).trans h2d
    have h3' : Boxed w' (B + 1) 22 (.slice a k c) := (hgx (B + 1) (by omega)).trans h3d
    have cx' : w'.cell? (sAt ad v) = some (.int .u8 (x.toNat : Int)) := by
      have := ((hb.below (show Below w.heap.size w w' by rw [HB.out]; exact b')).get8 hs).2
      rwa [HX.out] at this
    have k' : KeepsFrom w5.heap.size W.drew w' := (KeepsOthers.of_grownBy g' (fun j o hj ho => by
        obtain ⟨_, hc⟩ := h4d.cases
        rcases hc with ⟨h, _⟩ | ⟨x, cur, h, hb, hcur, _⟩
        · rw [h] at hj; cases hj
        · rw [h] at hj; cases hj; rw [hcur] at ho; cases ho; rfl)).from _
    have m' : KeepB (fun r => r = M ∨ r = M + 1 ∨ r = g) W.drew w' := fun r hr => hgx r (by omega)
    have s' : M + 2 ≤ w'.heap.size := Nat.le_trans h5d g'.size
    have ca : (W.drew.alloc (.cells #[.int .u8 (x.toNat : Int)] 5)).cell? ⟨B, 0, none⟩ = some (.slice ad n cap) := (h2d.alloc _).cell
    have cb : (W.drew.alloc (.cells #[.int .u8 (x.toNat : Int)] 5)).cell? ⟨B + 1, 0, none⟩ = some (.slice a k c) := (h3d.alloc _).cell
    have cc : (W.drew.alloc (.cells #[.int .u8 (x.toNat : Int)] 5)).cell? (sAt ad v) = some (.int .u8 (x.toNat : Int)) := cell_below (W := W.drew) cx ((Below.refl _ _).alloc (Nat.le_refl _) _)
    have c3' := h3'.cell
    have f3' := h3'.frozen
    have B' := Lib.hid b'; clear b'
    have K' := Lib.hid k'; clear k'
    have M' := Lib.hid m'; clear m'
    have KD := Lib.hid kd; clear kd
    have MD := Lib.hid md; clear md
    have O' := Lib.hid o'; clear o'
    have G' := Lib.hid hgx; clear hgx
    have S' := Lib.hid s'; clear s'
    have H2' := Lib.hid h2'; clear h2'
    have H3' := Lib.hid h3'; clear h3'
    clear g' n' h4d h1d h2d h3d h4 h1 h1w
    gi_wp2_with fail
    refine regionL (fun w' => w'.cell? ⟨B, 0, none⟩ = some (.slice ad n cap) ∧ w'.cell? ⟨B + 1, 0, none⟩ = some (.slice a k c) ∧ w'.cell? (sAt ad v) = some (.int .u8 (x.toNat : Int))) (by kernel_rfl) ?_
    have hSS : (fun w' : World => w'.cell? ⟨B, 0, none⟩ = some (.slice ad n cap) ∧ w'.cell? ⟨B + 1, 0, none⟩ = some (.slice a k c) ∧ w'.cell? (sAt ad v) = some (.int .u8 (x.toNat : Int))) W.drew := ⟨c0, c1, cx⟩
    refine AnyL.take (i := 0) (v := ?_) rfl (by kernel_rfl) (by kernel_rfl) (by kernel_rfl) (by kernel_rfl) (fun _ _ _ h => h) (by assumption) (by rfl) (fun _ => rfl) ?_ ?_
    rotate_left
    focus (intro w hSw; (try dsimp only at hSw); go_split_ands; go_simp; (try with_reducible rfl))
    (try simp only [Act.put, List.setIfInBounds_toArray, List.set_cons_zero, List.set_cons_succ, Array.setIfInBounds_toArray])
    refine AnyL.take (i := 1) (v := ?_) rfl (by kernel_rfl) (by kernel_rfl) (by kernel_rfl) (by kernel_rfl) (fun _ _ _ h => h) (by assumption) (by rfl) (fun _ => rfl) ?_ ?_
    rotate_left
    focus (intro w hSw; (try dsimp only at hSw); go_split_ands; go_simp; (try with_reducible rfl))
    (try simp only [Act.put, List.setIfInBounds_toArray, List.set_cons_zero, List.set_cons_succ, Array.setIfInBounds_toArray])
    refine AnyL.take (i := 2) (v := ?_) rfl (by kernel_rfl) (by kernel_rfl) (by kernel_rfl) (by kernel_rfl) (fun _ _ _ h => h) (by assumption) (by rfl) (fun _ => rfl) ?_ ?_
    rotate_left
    focus (intro w hSw; (try dsimp only at hSw); go_split_ands; go_simp; (try with_reducible rfl))
    (try simp only [Act.put, List.setIfInBounds_toArray, List.set_cons_zero, List.set_cons_succ, Array.setIfInBounds_toArray])
    refine AnyL.take (i := 3) (v := ?_) rfl (by kernel_rfl) (by kernel_rfl) (by kernel_rfl) (by kernel_rfl) (fun _ _ _ h => h) (by assumption) (by rfl) (fun _ => rfl) ?_ ?_
    rotate_left
    focus (intro w hSw; (try dsimp only at hSw); go_split_ands; go_simp; (try with_reducible rfl))
    (try simp only [Act.put, List.setIfInBounds_toArray, List.set_cons_zero, List.set_cons_succ, Array.setIfInBounds_toArray])
    refine AnyL.take (i := 4) (v := ?_) rfl (by kernel_rfl) (by kernel_rfl) (by kernel_rfl) (by kernel_rfl) (fun _ _ _ h => h) (by assumption) (by rfl) (fun _ => rfl) ?_ ?_
    rotate_left
    focus (intro w hSw; (try dsimp only at hSw); go_split_ands; go_simp; (try with_reducible rfl))
    (try simp only [Act.put, List.setIfInBounds_toArray, List.set_cons_zero, List.set_cons_succ, Array.setIfInBounds_toArray])
    refine AnyL.only (i := 5) (by kernel_rfl) rfl (by rfl) (fun K hK => ?_)
    go_simp
    refine hK.out _ _ (fun _ => ⟨ca, cb, cc⟩) ?_
    clear hK K
    refine AnyL.run1 (i := 6) (by kernel_rfl) rfl (by rfl) (fun _ => trivial) (fun c hc => by cases hc) (exec_append rfl rfl rfl hrun) ⟨H2'.out.cell, c3', cx'⟩ ?_
    refine AnyL.only (i := 7) (by kernel_rfl) rfl (by rfl) (fun K hK => ?_)
    go_simp
    refine hK.out _ _ (fun h => absurd h (by decide +kernel)) ?_
    clear hK K
    refine AnyL.done (by kernel_rfl) ?_ _
    refine ⟨(KD.out.trans K'.out).trans ((KeepsOthers.setCell _ _ _).from _), (MD.out.trans M'.out).trans (fun r hr => Below.heap_setCell _ _ _ r (by have := hg.1; simp; omega)), B'.out.setCell (by simp) _, H2'.out.other (by omega) _, a', c', H3'.out.set _, ?_, by simpa using S'.out⟩
    rw [HSU.out, ← B8_app]
    exact O'.out.setOther _ _ (fun g hg => by have := (O'.out.blk hg).1; simp; omega)
  case done =>
    rintro D W hD ⟨h1, h2, a, c, h3, h4, h5⟩ hK
    have hO := h3.cell
    have own := h4.abide (B := w5.heap.size) (wr := fun _ => False) (grownBy_putObj' W D (.deferred none)) (fun r e => by cases e; exact .inr ⟨hD, _, hK, rfl⟩) (fun _ _ h => h)
    have bel := h1.trans (belowK_b (n₀ := B) (w := w5) (by omega) W D _ (.deferred none) hD hK rfl rfl)
    have OWN := Lib.hid own; clear own
    have BEL := Lib.hid bel; clear bel
    gi_wp2
    refine ⟨by simp, .inl ⟨_, _, rfl, run_takeDeferred hK, ?_⟩⟩
    refine ⟨_, results_tmp2 rfl _ _ _, by rw [HB.out]; exact BEL.out, .inr ⟨p, a, c, rfl, hp, rfl, ?_⟩⟩
    rw [HB.out, backL, HL.out]
    exact OWN.out.lower (by omega)
  case stop =>
    rintro D c k W hD _ h
    exact h.elim
end Go.Proofs.Ytjjdckbdjmbndaa
