/- factor.index's neighbours as a sequence; hopeful. -/
import Derived.Test.YtnlemaaglbbdnaaFacB
namespace Go.Proofs.Ytnlemaaglbbdnaa
set_option linter.unusedSimpArgs false
set_option linter.unusedVariables false
open Go.RowKit Go.Shelf
attribute [local go_sem] Oper.semAt_some

theorem nb_seq (m Bx Bp Bs X g1 g2 g3 g4 g5 : Nat) (hm : 1 ≤ m) (n : Nat) (b : List UInt8) (o pl : List Nat) (hn : n ≤ 100000) (ab : Option Addr) (cb : Nat) (hl : b.length = n)
    (p : Nat) (hp : p < n) (st : Int) (N : Nat) (hN : N ≤ n) (f : Nat → Nat × Nat) (pos hx : Nat → Nat) (Z : Nat → Int) (hk : NbOk b o n p st N f pos hx Z) (w : World)
    (hBx : Boxed w Bx 40 (.pointer (some ⟨X, 0, none⟩))) (hBp : Boxed w Bp 3 (.int .i64 (p : Int))) (hBs : Boxed w Bs 3 (.int .i64 st)) (hX : Idx w X n ab cb g1 g2 g3 g4 g5 b o pl) :
    SeqN Fence.wide m Try.prog 37 #[.pointer (some ⟨Bx, 0, none⟩), .pointer (some ⟨Bp, 0, none⟩), .pointer (some ⟨Bs, 0, none⟩)] (nbE f) (nmine Bx Bs X g1 g3) (fun _ => False) N w :=
  fun l J Jx W hW hsz hJ _ hY h0 => nb_in m l Bx Bp Bs X g1 g2 g3 g4 g5 hm n b o pl hn ab cb hl p hp st N hN f pos hx Z hk J Jx hJ hY W ((hW.block _ hBx.lt).trans hBx) ((hW.block _ hBp.lt).trans hBp) ((hW.block _ hBs.lt).trans hBs) (hX.below hW) h0

theorem neighbours_any (w : World) (xv : Value) (hx : xv.oneCell' = true) (p st : Int) :
    Calls Try.prog 25 #[xv, .int .i64 p, .int .i64 st] w fun e w' => e = .returned (.func (.func 37) #[] #[.pointer (some ⟨w.heap.size, 0, none⟩), .pointer (some ⟨w.heap.size + 1, 0, none⟩), .pointer (some ⟨w.heap.size + 1 + 1, 0, none⟩)]) ∧
      ((w.alloc (.cells #[xv] 40)).alloc (.cells #[.int .i64 p] 3)).alloc (.cells #[.int .i64 st] 3) = w' := by
  go_enter Try.func25, Try.ntmps25
  go_wp2
  go_ret
  exact ⟨rfl, rfl⟩

set_option maxRecDepth 100000 in
set_option maxHeartbeats 4000000 in
theorem enough_law (w : World) (Bx X n : Nat) (ab : Option Addr) (cb g1 g2 g3 g4 g5 : Nat) (b : List UInt8) (o pl : List Nat) (hX : Idx w X n ab cb g1 g2 g3 g4 g5 b o pl) (hn : n ≤ 100000) (hBx : Boxed w Bx 40 (.pointer (some ⟨X, 0, none⟩))) (p q : Int) :
    Calls Try.prog 35 #[.int .i64 p, .int .i64 q, .pointer (some ⟨Bx, 0, none⟩)] w fun e w' => e = .returned (.bool (eno b o p q)) ∧ Below w.heap.size w w' := by
  obtain ⟨x0, x1, _, x3, _, _⟩ := six hX.hx
  have c1 := hBx.cell
  have rh := hX.rh
  rw [N64_I64] at rh
  have hcm := common_law w _ _ _ _ rh hn p q
  have heno : eno b o p q = (decide ((cmmI (hI b o) p q).2 = 0) && decide (3 ≤ (cmmI (hI b o) p q).1)) := rfl
  unfold hI at heno
  generalize cmmI (((hgtL b o).map fun c : Nat => (c : Int))) p q = c at *
  obtain ⟨u, v⟩ := c
  dsimp only at heno hcm
  have HE := Lib.hid heno; clear heno rh
  go_enter Try.func35, Try.ntmps35
  go_wp2_with fail
  refine hcm.mono ?_
  rintro e w1 ⟨rfl, b1⟩
  by_cases hv : v = 0
  · subst hv
    by_cases hu : (3 : Int) ≤ u
    · go_wp2_with fail
      go_ret
      exact ⟨by rw [HE.out]; simp [hu], b1⟩
    · go_wp2_with fail
      go_ret
      exact ⟨by rw [HE.out]; simp [hu], b1⟩
  · have hv2 : (v == 0) = false := beq_eq_false_iff_ne.2 hv
    go_wp2_with fail
    go_ret
    exact ⟨by rw [HE.out]; simp [hv], b1⟩

set_option maxRecDepth 100000 in
set_option maxHeartbeats 4000000 in
theorem hopeful_law (w : World) (X n : Nat) (ab : Option Addr) (cb g1 g2 g3 g4 g5 : Nat) (b : List UInt8) (o pl : List Nat) (hX : Idx w X n ab cb g1 g2 g3 g4 g5 b o pl) (hn : n ≤ 100000) (ho : o.length = n) (p : Nat) (hp : p < n) :
    Calls Try.prog 24 #[.pointer (some ⟨X, 0, none⟩), .int .i64 (p : Int)] w fun e w' => e = .returned (.bool (hop b o p)) ∧ Below w.heap.size w w' := by
  have hXn : X < w.heap.size := (Array.getElem?_eq_some_iff.1 hX.hx).1
  have hb1 : Below w.heap.size w (w.alloc (.cells #[.pointer (some ⟨X, 0, none⟩)] 40)) := (Below.refl _ _).alloc (Nat.le_refl _) _
  have hX1 := hX.below hb1
  have hB := Boxed.new w 40 (.pointer (some ⟨X, 0, none⟩))
  obtain ⟨x0, x1, _, x3, x4, x5⟩ := six hX1.hx
  have ru := hX1.ru
  have rd := hX1.rd
  have cu := (ru.getI hp).2
  have cd := (rd.getI hp).2
  rw [sAt_lit] at cu cd
  unfold hop
  rw [ho]
  obtain ⟨u, hu⟩ : ∃ u, atI (refAhead (oI o) n) p = u := ⟨_, rfl⟩
  obtain ⟨d, hd⟩ : ∃ d, atI (refBehind (oI o) n) p = d := ⟨_, rfl⟩
  rw [hu] at cu; rw [hd] at cd; rw [hu, hd]
  have cb0 := hB.cell
  clear hu hd ru rd
  go_enter Try.func24, Try.ntmps24
  go_upto_region 2 with fail
  generalize w.alloc (.cells #[.pointer (some ⟨X, 0, none⟩)] 40) = w1 at *
  generalize hBB : w.heap.size = B at *
  try rw [hBB] at hb1
  go_wp2_with fail
  refine (enough_law w1 B X n ab cb g1 g2 g3 g4 g5 b o pl hX1 hn hB u p).mono ?_
  rintro e w2 ⟨rfl, b2⟩
  have c2 : Below B w w2 := hb1.trans (b2.mono (by have := hb1.size; omega))
  have hX2 := hX1.below b2
  have hB2 : Boxed w2 B 40 (.pointer (some ⟨X, 0, none⟩)) := (b2.block _ hB.lt).trans hB
  have cd2 := cell_below cd b2
  have cb2 := hB2.cell
  obtain ⟨y0, y1, _, y3, y4, y5⟩ := six hX2.hx
  clear cu x0 x1 x3 x4 x5 cb0 cd hb1 b2 hX1 hB
  cases he : eno b o u p with
  | true =>
    go_wp2_with fail
    go_ret
    exact ⟨by simp [he], by rw [hBB]; exact c2⟩
  | false =>
    go_wp2_with fail
    refine (enough_law w2 B X n ab cb g1 g2 g3 g4 g5 b o pl hX2 hn hB2 p d).mono ?_
    rintro e w3 ⟨rfl, b3⟩
    go_wp2_with fail
    go_ret
    exact ⟨by simp [he], by rw [hBB]; exact c2.trans (b3.mono (by have := c2.size; omega))⟩
end Go.Proofs.Ytnlemaaglbbdnaa
