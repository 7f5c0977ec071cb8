/- factor.index.longest: the walk. -/
import Derived.Test.YtnlemaaglbbdnaaFacC
import Derived.Sort.BigQuietIn
import Derived.LoopNIn
import Derived.Test.YtnlemaaglbbdnaaRegT
namespace Go.Proofs.Ytnlemaaglbbdnaa
set_option linter.unusedSimpArgs false
set_option linter.unusedVariables false
open Go.RowKit Go.Shelf
attribute [local go_sem] Oper.semAt_some

def NoMark (_ : World) : Prop := True
theorem Abide.block {B D : Nat} {wr : Nat → Prop} {o : Obj} (hD : D < B) (hn : ¬ wr D) : Abide B wr (fun _ W => W.heap[D]? = some o) := fun k W W' row hs hg hr =>
  (hg.block D (Array.getElem?_eq_some_iff.1 hs).1 (fun e => by
    rcases hr D e.symm with h | ⟨h, _⟩
    · exact hn h
    · omega)).trans hs

set_option maxRecDepth 100000 in
set_option maxHeartbeats 4000000 in
theorem longest_law (w : World) (X n : Nat) (ab : Option Addr) (cb g1 g2 g3 g4 g5 : Nat) (b : List UInt8) (o pl : List Nat) (hX : Idx w X n ab cb g1 g2 g3 g4 g5 b o pl) (hn : n ≤ 100000) (ho : Ordered b false o) (hl : b.length = n)
    (hpl : ∀ i, i < n → atN pl i = plc o i) (i walk : Nat) (hi : i < n) (hw : walk ≤ 1048576) :
    Calls Try.prog 14 #[.pointer (some ⟨X, 0, none⟩), .int .i64 (i : Int), .int .i64 (walk : Int)] w fun e w' => e = .returned (.tuple #[.int .i64 ((lng b o walk i).1 : Int), .int .i64 ((lng b o walk i).2 : Int)]) ∧ Below w.heap.size w w' := by
  obtain ⟨p, hp⟩ : ∃ p, plc o i = p := ⟨_, rfl⟩
  have hpn : p < n := by rw [← hp, ← hl]; exact (plc_ok ho (by omega)).1
  have hlng : lng b o walk i = if hop b o p then (min (scan i walk (nbR b o p) (n - 1 - p) 0 (scan i walk (nbL b o p) p 0 (0, 0))).1 258, (scan i walk (nbR b o p) (n - 1 - p) 0 (scan i walk (nbL b o p) p 0 (0, 0))).2) else (0, 0) := by
    rw [← hp, ← hl]; rfl
  have hpi := hpl i hi
  rw [hp] at hpi
  have HLN := Lib.hid hlng; clear hlng
  have HO := Lib.hid ho; clear ho
  have HL := Lib.hid hl; clear hl
  clear hpl hp
  refine (callsIn_wide (n := 9)).1 ?_
  refine callsIn_of_wp_marks Try.func14 rfl trivial ?_ rfl
  simp only [Try.ntmps14, List.size_toArray, List.length_cons, List.length_nil, Nat.reduceAdd, Nat.reduceSub, Array.replicate_succ, Array.replicate_zero, List.push_toArray, List.append_toArray, List.nil_append, List.cons_append]
  obtain ⟨B, hB⟩ : ∃ B, w.heap.size = B := ⟨_, rfl⟩
  have d0 := (Boxed.new w 3 (.int .i64 (i : Int))).alloc (.cells #[.int .i64 (walk : Int)] 3)
  have d1 := Boxed.new (w.alloc (.cells #[.int .i64 (i : Int)] 3)) 3 (.int .i64 (walk : Int))
  have c1 : Below w.heap.size w ((w.alloc (.cells #[.int .i64 (i : Int)] 3)).alloc (.cells #[.int .i64 (walk : Int)] 3)) := ((Below.refl _ _).alloc (Nat.le_refl _) _).alloc (by simp) _
  have hX1 := hX.below c1
  have s1 : ((w.alloc (.cells #[.int .i64 (i : Int)] 3)).alloc (.cells #[.int .i64 (walk : Int)] 3)).heap.size = B + 2 := by simp [hB]
  have hXB : X < B := by rw [← hB]; exact (Array.getElem?_eq_some_iff.1 hX.hx).1
  simp only [World.size_alloc, hB] at d0 d1
  obtain ⟨x0, x1, x2, x3, _, _⟩ := six hX1.hx
  have cp := (hX1.rp.getN hi).2
  rw [sAt_lit, hpi] at cp
  have hg1 : g1 < B := by have := World.block_lt_of_cell? w _ ((hX.ro.getN hpn).2); rw [sAt_lit] at this; dsimp only at this; omega
  have hg3 : g3 < B := by have := World.block_lt_of_cell? w _ ((hX.rh.getN hpn).2); rw [sAt_lit] at this; dsimp only at this; omega
  clear hpi
  gi_wp2
  have hs1 : B + 2 ≤ ((w.alloc (.cells #[.int .i64 (i : Int)] 3)).alloc (.cells #[.int .i64 (walk : Int)] 3)).heap.size := by rw [s1]; exact Nat.le_refl _
  rw [hB] at c1
  clear s1
  generalize ((w.alloc (.cells #[.int .i64 (i : Int)] 3)).alloc (.cells #[.int .i64 (walk : Int)] 3)) = w1 at *
  have e0 := d0.cell
  (try simp only [List.append])
  refine wpIn_region_quiet_lit rfl (by kernel_rfl) (by kernel_rfl) ?_
  repeat (gi_big_quiet_step (fail))
  refine wpQuietIn_nil ?_
  intro _ hw'
  obtain ⟨nq, hw''⟩ := hw'
  subst hw''
  replace c1 := bDraws c1 nq
  replace hX1 := hX1.below (bDraws (Below.refl _ _) nq)
  replace d0 : Boxed (w1.drewN nq) B 3 (.int .i64 (i : Int)) := d0
  replace d1 : Boxed (w1.drewN nq) (B + 1) 3 (.int .i64 (walk : Int)) := d1
  replace hs1 : B + 2 ≤ (w1.drewN nq).heap.size := hs1
  clear x0 x1 x2 x3 cp e0
  generalize w1.drewN nq = w2 at *
  have hopl := hopeful_law w2 X n ab cb g1 g2 g3 g4 g5 b o pl hX1 hn (HO.out.len.trans HL.out) p hpn
  cases hh : hop b o p with
  | false =>
    have hres : lng b o walk i = (0, 0) := by rw [HLN.out, hh]; rfl
    rw [hh] at hopl
    gi_wp2_with (refine ⟨trivial, ?_⟩; gi_at_call 24; refine (callsIn_wide.2 hopl).mono ?_; rintro e w3 ⟨rfl, b3⟩)
    refine ⟨_, results_tmp2 rfl _ _ _, by rw [hres]; rfl, ?_⟩
    rw [hB]
    exact c1.trans (b3.mono (by omega))
  | true =>
    rw [hh] at hopl
    have hres : lng b o walk i = (min (scan i walk (nbR b o p) (n - 1 - p) 0 (scan i walk (nbL b o p) p 0 (0, 0))).1 258, (scan i walk (nbR b o p) (n - 1 - p) 0 (scan i walk (nbL b o p) p 0 (0, 0))).2) := by rw [HLN.out, hh]; rfl
    have HRES := Lib.hid hres; clear hres hh HLN
    gi_wp2_with (refine ⟨trivial, ?_⟩; gi_at_call 24; refine (callsIn_wide.2 hopl).mono ?_; rintro e w3 ⟨rfl, b3⟩)
    have c3 := c1.trans (b3.mono (by omega))
    have hX3 := hX1.below b3
    have t0 : Boxed w3 B 3 (.int .i64 (i : Int)) := (b3.block _ d0.lt).trans d0
    have t1 : Boxed w3 (B + 1) 3 (.int .i64 (walk : Int)) := (b3.block _ d1.lt).trans d1
    have hs3 : B + 2 ≤ w3.heap.size := Nat.le_trans hs1 b3.size
    clear c1 hX1 d0 d1 b3 hs1 hopl
    obtain ⟨L, hL⟩ : ∃ L, w3.heap.size = L := ⟨_, rfl⟩
    have hLB : B + 2 ≤ L := by omega
    have u1 := (Boxed.new w3 3 (.int .i64 0)).alloc (.cells #[.int .i64 0] 3)
    have u2 := Boxed.new (w3.alloc (.cells #[.int .i64 0] 3)) 3 (.int .i64 0)
    have hb4 : Below w3.heap.size w3 ((w3.alloc (.cells #[.int .i64 0] 3)).alloc (.cells #[.int .i64 0] 3)) := ((Below.refl _ _).alloc (Nat.le_refl _) _).alloc (by simp) _
    have t0' : Boxed ((w3.alloc (.cells #[.int .i64 0] 3)).alloc (.cells #[.int .i64 0] 3)) B 3 (.int .i64 (i : Int)) := (hb4.block _ t0.lt).trans t0
    have t1' : Boxed ((w3.alloc (.cells #[.int .i64 0] 3)).alloc (.cells #[.int .i64 0] 3)) (B + 1) 3 (.int .i64 (walk : Int)) := (hb4.block _ t1.lt).trans t1
    have c4 := c3.trans (hb4.mono (by omega))
    have s4 : ((w3.alloc (.cells #[.int .i64 0] 3)).alloc (.cells #[.int .i64 0] 3)).heap.size = L + 2 := by simp [hL]
    simp only [World.size_alloc, hL] at u1 u2 ⊢
    clear hb4 t0 t1 hX3 c3
    generalize ((w3.alloc (.cells #[.int .i64 0] 3)).alloc (.cells #[.int .i64 0] 3)) = w4 at *
    clear hL hs3
    obtain ⟨M, hM⟩ : ∃ M, M = L + 2 := ⟨_, rfl⟩
    rw [← hM] at s4
    have hML : L + 2 ≤ M := by omega
    clear hM
    have ix0 : ∀ W : World, (Instr.index 53 (.agg #[.int .i64 (-1), .int .i64 1]) (.int .i64 0)).run Try.prog W = .ok (.int .i64 (-1)) W := fun W => by kernel_rfl
    have ix1 : ∀ W : World, (Instr.index 53 (.agg #[.int .i64 (-1), .int .i64 1]) (.int .i64 1)).run Try.prog W = .ok (.int .i64 1) W := fun W => by kernel_rfl
    obtain ⟨S1, hS1⟩ : ∃ S1 : Nat, S1 = 0 := ⟨_, rfl⟩
    obtain ⟨S2, hS2⟩ : ∃ S2 : Nat, S2 = 0 := ⟨_, rfl⟩
    replace u1 : Boxed w4 L 3 (.int .i64 (S1 : Int)) := by rw [hS1]; exact u1
    replace u2 : Boxed w4 (L + 1) 3 (.int .i64 (S2 : Int)) := by rw [hS2]; exact u2
    obtain ⟨R, hR⟩ : ∃ R, scan i walk (nbL b o p) p 0 (S1, S2) = R := ⟨_, rfl⟩
    obtain ⟨T, hT⟩ : ∃ T, scan i walk (nbR b o p) (n - 1 - p) 0 R = T := ⟨_, rfl⟩
    have hres := HRES.out
    rw [← show (S1, S2) = (0, 0) by rw [hS1, hS2], hR, hT] at hres
    clear hS1 hS2
    obtain ⟨R1, R2⟩ := R
    obtain ⟨T1, T2⟩ := T
    have HR := Lib.hid hR; clear hR
    have HT := Lib.hid hT; clear hT
    have HRS := Lib.hid hres; clear hres HRES
    have HNL := Lib.hid (nbL_ok HO.out HL.out hpn)
    have HNR := Lib.hid (nbR_ok HO.out HL.out hpn)
    refine wpIn_loop_rounds 3 ?_
    rw [roundsIn_succ]
    have HAB : Hid (∀ q : Nat, M ≤ q → Abide q (fun _ => False) (fun (_ : Nat) (W : World) => NoMark W)) := Lib.hid (fun _ _ _ _ _ _ _ _ _ => trivial)
    have HMK5 : Hid (∀ W, Below M w4 W → NoMark W) := Lib.hid fun _ _ => trivial
    have HMA : Hid (∀ {W : World} (W' : World), (∀ r, r ≠ L → r ≠ L + 1 → r ≠ M → W'.heap[r]? = W.heap[r]?) → NoMark W → NoMark W') := Lib.hid (fun _ _ _ => trivial)
    have w5e : ∃ w5, (((w4.alloc (.cells #[.int .i64 0] 3)).alloc (.cells #[.pointer (some ⟨X, 0, none⟩)] 40)).alloc (.cells #[.int .i64 (p : Int)] 3)).alloc (.cells #[.int .i64 ((-1))] 3) = w5 := ⟨_, rfl⟩
    obtain ⟨w5, hw5⟩ := w5e
    have v0 := (((Boxed.new w4 3 (.int .i64 0)).alloc (.cells #[.pointer (some ⟨X, 0, none⟩)] 40)).alloc (.cells #[.int .i64 (p : Int)] 3)).alloc (.cells #[.int .i64 ((-1))] 3)
    have v1 := ((Boxed.new (w4.alloc (.cells #[.int .i64 0] 3)) 40 (.pointer (some ⟨X, 0, none⟩))).alloc (.cells #[.int .i64 (p : Int)] 3)).alloc (.cells #[.int .i64 ((-1))] 3)
    have v2 := (Boxed.new ((w4.alloc (.cells #[.int .i64 0] 3)).alloc (.cells #[.pointer (some ⟨X, 0, none⟩)] 40)) 3 (.int .i64 (p : Int))).alloc (.cells #[.int .i64 ((-1))] 3)
    have v3 := Boxed.new (((w4.alloc (.cells #[.int .i64 0] 3)).alloc (.cells #[.pointer (some ⟨X, 0, none⟩)] 40)).alloc (.cells #[.int .i64 (p : Int)] 3)) 3 (.int .i64 ((-1)))
    have hb5 : Below w4.heap.size w4 ((((w4.alloc (.cells #[.int .i64 0] 3)).alloc (.cells #[.pointer (some ⟨X, 0, none⟩)] 40)).alloc (.cells #[.int .i64 (p : Int)] 3)).alloc (.cells #[.int .i64 ((-1))] 3)) := ((((Below.refl _ _).alloc (Nat.le_refl _) _).alloc (by simp) _).alloc (by simp; omega) _).alloc (by simp; omega) _
    have s5 : ((((w4.alloc (.cells #[.int .i64 0] 3)).alloc (.cells #[.pointer (some ⟨X, 0, none⟩)] 40)).alloc (.cells #[.int .i64 (p : Int)] 3)).alloc (.cells #[.int .i64 ((-1))] 3)).heap.size = M + 4 := by simp [s4]
    rw [hw5] at v0 v1 v2 v3 hb5 s5
    simp only [World.size_alloc, s4] at v0 v1 v2 v3 hb5
    have q0 : Boxed w5 B 3 (.int .i64 (i : Int)) := (hb5.block _ (by omega)).trans t0'
    have q1 : Boxed w5 (B + 1) 3 (.int .i64 (walk : Int)) := (hb5.block _ (by omega)).trans t1'
    have y1 : Boxed w5 L 3 (.int .i64 ((S1 : Int))) := (hb5.block _ (by omega)).trans u1
    have y2 : Boxed w5 (L + 1) 3 (.int .i64 ((S2 : Int))) := (hb5.block _ (by omega)).trans u2
    have c5 : Below B w w5 := c4.trans (hb5.mono (by omega))
    have hX5 := hX.below (show Below w.heap.size w w5 by rw [hB]; exact c5)
    have hseq := nb_seq 8 (M + 1) (M + 1 + 1) (M + 1 + 1 + 1) X g1 g2 g3 g4 g5 (by omega) n b o pl hn ab cb HL.out p hpn ((-1)) (p) (by omega) (nbL b o p) _ _ _ (HNL.out) w5 v1 v2 v3 hX5
    have S5 := Lib.hid s5
    gi_wp2_with (refine ⟨trivial, ?_⟩; gi_at_call 25; refine (callsIn_wide.2 (neighbours_any _ _ rfl _ _)).mono ?_; rintro e w6 ⟨rfl, rfl⟩)
    try rw [hw5]
    clear hw5
    refine wpIn_rangeN rfl (by omega) (gf := 37) (lb := #[.pointer (some ⟨M + 1, 0, none⟩), .pointer (some ⟨M + 1 + 1, 0, none⟩), .pointer (some ⟨M + 1 + 1 + 1, 0, none⟩)]) rfl trivial (enters_of Try.func37 (by kernel_rfl) rfl) hseq
      (fun r hr => by rcases hr with h | h | h | h | h <;> omega) (fun r hr => hr.elim) (Below.refl _ _) (fun _ => rfl)
      (fun k W => Below B w W ∧ Boxed W B 3 (.int .i64 (i : Int)) ∧ Boxed W (B + 1) 3 (.int .i64 (walk : Int)) ∧ Boxed W L 3 (.int .i64 ((S1 : Int))) ∧ Boxed W (L + 1) 3 (.int .i64 ((S2 : Int))) ∧ Boxed W M 3 (.int .i64 (k : Int)) ∧ (NoMark) W ∧ Hid (scan i walk (nbL b o p) ((p) - k) k ((S1, S2)) = (R1, R2)))
      (fun c k W => c = .exit 2 ∧ Below B w W ∧ Boxed W B 3 (.int .i64 (i : Int)) ∧ Boxed W (B + 1) 3 (.int .i64 (walk : Int)) ∧ Boxed W L 3 (.int .i64 (R1 : Int)) ∧ Boxed W (L + 1) 3 (.int .i64 (R2 : Int)) ∧ (NoMark) W)
      ?hIA ?hIxA ?h0A ?_ ?assignA ?bodyA ?doneA ?stopA
    case assignA =>
      intro l k W K hK
      dsimp only [nbE]
      gi_wp2
      exact hK
    case hIA => exact (Abide.below (by omega) (by omega) (fun r hr => hr.elim)).and ((Abide.boxed _ (fun _ => _) (fun h => h)).and ((Abide.boxed _ (fun _ => _) (fun h => h)).and ((Abide.boxed _ (fun _ => _) (fun h => h)).and ((Abide.boxed _ (fun _ => _) (fun h => h)).and ((Abide.boxed _ (fun k : Nat => Value.int .i64 (k : Int)) (fun h => h)).and ((HAB.out _ (by omega)).and (Abide.pure _)))))))
    case hIxA => exact fun c => (Abide.pure (fun _ => c = .exit 2)).and ((Abide.below (by omega) (by omega) (fun r hr => hr.elim)).and ((Abide.boxed _ (fun _ => _) (fun h => h)).and ((Abide.boxed _ (fun _ => _) (fun h => h)).and ((Abide.boxed _ (fun _ => _) (fun h => h)).and ((Abide.boxed _ (fun _ => _) (fun h => h)).and (HAB.out _ (by omega)))))))
    case h0A => exact ⟨c5, q0, q1, y1, y2, v0, HMK5.out _ hb5, Lib.hid (by rw [Nat.sub_zero]; exact (HR).out)⟩
    case bodyA =>
      rintro l k W ⟨h1, h2, h3, h4, h5, h6, hmk, hsc⟩ hk
      have hs := hsc.out
      rw [show (p) - k = ((p) - (k + 1)) + 1 by omega, scan] at hs
      have hfb := (HNL.out).fb k
      have hf1 := (HNL.out).f1 k hk
      have hpn1 := ((HNL.out).pn k hk).1
      have hF1n : ((nbL b o p) k).1 < n := by rw [hf1]; have := HO.out.ord.lt (p := _) (show _ < b.length by rw [HL.out]; exact hpn1); rw [HL.out] at this; exact this
      clear hsc hf1 hpn1 hseq v0 v1 v2 v3 hb5 q0 q1 y1 y2 c5 hX5
      generalize (nbL b o p) k = fk at *
      obtain ⟨F1, F2⟩ := fk
      dsimp only at hs hfb hF1n ⊢
      have e0 := h2.cell
      have e1 := h3.cell
      have e2 := h4.cell
      have e3 := h5.cell
      have e4 := h6.cell
      have f4 := h6.frozen
      by_cases a1 : F2 < 3
      · rw [if_pos (.inl a1)] at hs
        have hs1 := congrArg Prod.fst hs
        have hs2 := congrArg Prod.snd hs
        dsimp only at hs1 hs2
        have HS1 := Lib.hid hs1; clear hs1
        have HS2 := Lib.hid hs2; clear hs2
        have a1' : (F2 : Int) < 3 := by omega
        clear hs
        gi_wp2
        refine ⟨KeepsFrom.refl _ _, rfl, h1, h2, h3, by rw [← HS1.out]; exact h4, by rw [← HS2.out]; exact h5, hmk⟩
      · have a1' : ¬ (F2 : Int) < 3 := by omega
        by_cases a2 : F2 ≤ S1
        · rw [if_pos (.inr a2)] at hs
          have hs1 := congrArg Prod.fst hs
          have hs2 := congrArg Prod.snd hs
          dsimp only at hs1 hs2
          have HS1 := Lib.hid hs1; clear hs1
          have HS2 := Lib.hid hs2; clear hs2
          clear hs
          gi_wp2
          refine ⟨KeepsFrom.refl _ _, rfl, h1, h2, h3, by rw [← HS1.out]; exact h4, by rw [← HS2.out]; exact h5, hmk⟩
        · rw [if_neg (fun h => h.elim a1 a2)] at hs
          by_cases a3 : F1 < i
          · have a3' : (F1 : Int) < (i : Int) := by omega
            obtain ⟨dd, hdd⟩ : ∃ dd, i - F1 = dd := ⟨_, rfl⟩
            have hd1 : (i : Int) - (F1 : Int) = (dd : Int) := by omega
            have wd1 : IntKind.i64.wrap (dd : Int) = (dd : Int) := IntWalk.i64_in _ (by omega)
            rw [hdd] at hs
            have HD1 := Lib.hid hdd; clear hdd
            by_cases a4 : dd ≤ 32768
            · have a4' : (dd : Int) ≤ 32768 := by omega
              rw [if_pos ⟨a3, a4⟩] at hs
              have hs1 := congrArg Prod.fst hs
              have hs2 := congrArg Prod.snd hs
              dsimp only at hs1 hs2
              have HS1 := Lib.hid hs1; clear hs1
              have HS2 := Lib.hid hs2; clear hs2
              clear hs
              gi_wp2
              have d2 : Boxed W.drew B 3 (.int .i64 (i : Int)) := h2
              have d3 : Boxed W.drew (B + 1) 3 (.int .i64 (walk : Int)) := h3
              have d4 : Boxed W.drew L 3 _ := h4
              have d5 : Boxed W.drew (L + 1) 3 _ := h5
              have hks : KeepsOthers W W.drew := KeepsOthers.drew W
              have hmk2 := HMA.out W.drew (fun r _ _ _ => rfl) hmk
              have i2 := ((d2.other (B' := L) (by omega) (.int .i64 (F2 : Int))).other (B' := L + 1) (by omega) (.int .i64 (dd : Int)))
              have i3 := ((d3.other (B' := L) (by omega) (.int .i64 (F2 : Int))).other (B' := L + 1) (by omega) (.int .i64 (dd : Int)))
              have i4 := ((d4.set (.int .i64 (F2 : Int))).other (B' := L + 1) (by omega) (.int .i64 (dd : Int)))
              have i5 := ((d5.other (B' := L) (by omega) (.int .i64 (F2 : Int))).set (.int .i64 (dd : Int)))
              have i1 := ((h1.drew.setCell (p := ⟨L, 0, none⟩) (by simp; omega) (.int .i64 (F2 : Int))).setCell (p := ⟨L + 1, 0, none⟩) (by simp; omega) (.int .i64 (dd : Int)))
              have im := HMA.out ((W.drew.setCell ⟨L, 0, none⟩ (.int .i64 (F2 : Int))).setCell ⟨L + 1, 0, none⟩ (.int .i64 (dd : Int))) (fun r ra rb rc => (Below.heap_setCell _ _ _ r (by simp; omega)).trans (Below.heap_setCell _ _ _ r (by simp; omega))) hmk2
              have fz4 := h4.frozen
              have fz5 := h5.frozen
              have x4 := d4.cell
              have x5 := d5.cell
              have y4 := d4.frozen
              have y5 := d5.frozen
              have z5 := (d5.other (B' := L) (by omega) (.int .i64 (F2 : Int))).cell
              have z4 := (d4.other (B' := L + 1) (by omega) (.int .i64 (dd : Int))).cell
              have k5 := (d5.other (B' := L) (by omega) (.int .i64 (F2 : Int))).frozen
              have k4 := (d4.other (B' := L + 1) (by omega) (.int .i64 (dd : Int))).frozen
              have s2 := (d2.other (B' := L) (by omega) (.int .i64 (F2 : Int))).cell
              have s3 := (d2.other (B' := L + 1) (by omega) (.int .i64 (dd : Int))).cell
              refine regionT [0, 1, 2, 3] (fun w' => w'.cell? ⟨B, 0, none⟩ = some (.int .i64 (i : Int))) (by kernel_rfl) ?_
              have hSS : (fun w' : World => w'.cell? ⟨B, 0, none⟩ = some (.int .i64 (i : Int))) W.drew := e0
              refine AnyT.take (i := 0) (v := ?_) (by decide) (by kernel_rfl) rfl (by kernel_rfl) (by kernel_rfl) (by kernel_rfl) (by kernel_rfl) (fun _ _ _ h => h) (by assumption) (by rfl) (fun _ => rfl) ?_ ?_
              rotate_left
              focus (intro w hSw; (try dsimp only at hSw); go_split_ands; go_simp; (try with_reducible rfl))
              (try simp only [Act.put, List.setIfInBounds_toArray, List.set_cons_zero, List.set_cons_succ, Array.setIfInBounds_toArray])
              refine AnyT.take (i := 1) (v := ?_) (by decide) (by kernel_rfl) rfl (by kernel_rfl) (by kernel_rfl) (by kernel_rfl) (by kernel_rfl) (fun _ _ _ h => h) (by assumption) (by rfl) (fun _ => rfl) ?_ ?_
              rotate_left
              focus (intro w hSw; (try dsimp only at hSw); go_split_ands; go_simp; (try with_reducible rfl))
              (try simp only [Act.put, List.setIfInBounds_toArray, List.set_cons_zero, List.set_cons_succ, Array.setIfInBounds_toArray])
              refine AnyT.take (i := 2) (v := ?_) (by decide) (by kernel_rfl) rfl (by kernel_rfl) (by kernel_rfl) (by kernel_rfl) (by kernel_rfl) (fun _ _ _ h => h) (by assumption) (by rfl) (fun _ => rfl) ?_ ?_
              rotate_left
              focus (intro w hSw; (try dsimp only at hSw); go_split_ands; go_simp; (try with_reducible rfl))
              (try simp only [Act.put, List.setIfInBounds_toArray, List.set_cons_zero, List.set_cons_succ, Array.setIfInBounds_toArray])
              refine AnyT.take (i := 3) (v := ?_) (by decide) (by kernel_rfl) rfl (by kernel_rfl) (by kernel_rfl) (by kernel_rfl) (by kernel_rfl) (fun _ _ _ h => h) (by assumption) (by rfl) (fun _ => rfl) ?_ ?_
              rotate_left
              focus (intro w hSw; (try dsimp only at hSw); go_split_ands; go_simp; (try with_reducible rfl))
              (try simp only [Act.put, List.setIfInBounds_toArray, List.set_cons_zero, List.set_cons_succ, Array.setIfInBounds_toArray])
              refine AnyT.only (i := 4) (by kernel_rfl) rfl (by rfl) (fun K hK => ?_)
              go_simp
              refine hK.out _ _ (fun _ => s2) ?_
              clear hK K
              refine AnyT.only (i := 5) (by kernel_rfl) rfl (by rfl) (fun K hK => ?_)
              go_simp
              refine hK.out _ _ (fun _ => i2.cell) ?_
              clear hK K
              refine AnyT.done (by kernel_rfl) ?_ _
              gi_wp2
              refine ⟨(hks.trans ((KeepsOthers.setCell _ _ _).trans (KeepsOthers.setCell _ _ _))).from _, rfl, i1, i2, i3, by rw [← HS1.out]; exact i4, by rw [← HS2.out]; exact i5, im⟩
            · have a4' : ¬ (dd : Int) ≤ 32768 := by omega
              rw [if_neg (fun h => a4 h.2)] at hs
              have z6 := h6.set (.int .i64 ((k : Int) + 1))
              have z1 := h1.setCell (p := ⟨M, 0, none⟩) (by simp; omega) (.int .i64 ((k : Int) + 1))
              have z2 := h2.other (B' := M) (by omega) (.int .i64 ((k : Int) + 1))
              have z3 := h3.other (B' := M) (by omega) (.int .i64 ((k : Int) + 1))
              have z4 := h4.other (B' := M) (by omega) (.int .i64 ((k : Int) + 1))
              have z5 := h5.other (B' := M) (by omega) (.int .i64 ((k : Int) + 1))
              have zk := HMA.out (W.setCell ⟨M, 0, none⟩ (.int .i64 ((k : Int) + 1))) (fun r ra rb rc => Below.heap_setCell _ _ _ r (by simp; omega)) hmk
              have e6 := z6.cell
              have e3' := z3.cell
              have wk1 : IntKind.i64.wrap ((k : Int) + 1) = ((k : Int) + 1) := IntWalk.i64_in _ (by omega)
              have hks : KeepsOthers W (W.setCell ⟨M, 0, none⟩ (.int .i64 ((k : Int) + 1))) := KeepsOthers.setCell _ _ _
              have hkb : KeepB (nmine (M + 1) (M + 1 + 1 + 1) X g1 g3) W (W.setCell ⟨M, 0, none⟩ (.int .i64 ((k : Int) + 1))) := fun r hr => Below.heap_setCell _ _ _ r (by simp; rcases hr with h | h | h | h | h <;> omega)
              by_cases hkw : k + 1 = walk
              · rw [if_pos hkw] at hs
                have hs1 := congrArg Prod.fst hs
                have hs2 := congrArg Prod.snd hs
                dsimp only at hs1 hs2
                have HS1 := Lib.hid hs1; clear hs1
                have HS2 := Lib.hid hs2; clear hs2
                have hkw3 : ((k : Int) + 1 == (walk : Int)) = true := by rw [← hkw]; simp
                clear hs hkw
                gi_wp2
                refine ⟨hks.from _, rfl, z1, z2, z3, by rw [← HS1.out]; exact z4, by rw [← HS2.out]; exact z5, zk⟩
              · rw [if_neg hkw] at hs
                have hkw3 : ((k : Int) + 1 == (walk : Int)) = false := beq_eq_false_iff_ne.2 (by omega)
                have HSS := Lib.hid hs; clear hs hkw
                gi_wp2
                refine ⟨hks.from _, hkb, z1, z2, z3, z4, z5, z6, zk, HSS⟩
          · have a3' : ¬ (F1 : Int) < (i : Int) := by omega
            rw [if_neg (fun h => a3 h.1)] at hs
            have z6 := h6.set (.int .i64 ((k : Int) + 1))
            have z1 := h1.setCell (p := ⟨M, 0, none⟩) (by simp; omega) (.int .i64 ((k : Int) + 1))
            have z2 := h2.other (B' := M) (by omega) (.int .i64 ((k : Int) + 1))
            have z3 := h3.other (B' := M) (by omega) (.int .i64 ((k : Int) + 1))
            have z4 := h4.other (B' := M) (by omega) (.int .i64 ((k : Int) + 1))
            have z5 := h5.other (B' := M) (by omega) (.int .i64 ((k : Int) + 1))
            have zk := HMA.out (W.setCell ⟨M, 0, none⟩ (.int .i64 ((k : Int) + 1))) (fun r ra rb rc => Below.heap_setCell _ _ _ r (by simp; omega)) hmk
            have e6 := z6.cell
            have e3' := z3.cell
            have wk1 : IntKind.i64.wrap ((k : Int) + 1) = ((k : Int) + 1) := IntWalk.i64_in _ (by omega)
            have hks : KeepsOthers W (W.setCell ⟨M, 0, none⟩ (.int .i64 ((k : Int) + 1))) := KeepsOthers.setCell _ _ _
            have hkb : KeepB (nmine (M + 1) (M + 1 + 1 + 1) X g1 g3) W (W.setCell ⟨M, 0, none⟩ (.int .i64 ((k : Int) + 1))) := fun r hr => Below.heap_setCell _ _ _ r (by simp; rcases hr with h | h | h | h | h <;> omega)
            by_cases hkw : k + 1 = walk
            · rw [if_pos hkw] at hs
              have hs1 := congrArg Prod.fst hs
              have hs2 := congrArg Prod.snd hs
              dsimp only at hs1 hs2
              have HS1 := Lib.hid hs1; clear hs1
              have HS2 := Lib.hid hs2; clear hs2
              have hkw3 : ((k : Int) + 1 == (walk : Int)) = true := by rw [← hkw]; simp
              clear hs hkw
              gi_wp2
              refine ⟨hks.from _, rfl, z1, z2, z3, by rw [← HS1.out]; exact z4, by rw [← HS2.out]; exact z5, zk⟩
            · rw [if_neg hkw] at hs
              have hkw3 : ((k : Int) + 1 == (walk : Int)) = false := beq_eq_false_iff_ne.2 (by omega)
              have HSS := Lib.hid hs; clear hs hkw
              gi_wp2
              refine ⟨hks.from _, hkb, z1, z2, z3, z4, z5, z6, zk, HSS⟩
    case doneA =>
      rintro D W hD ⟨h1, h2, h3, h4, h5, _, _, hsc⟩ hK
      have hs := hsc.out
      rw [Nat.sub_self, scan] at hs
      replace h4 : Boxed W L 3 (.int .i64 (R1 : Int)) := by rw [← show S1 = R1 from congrArg Prod.fst hs]; exact h4
      replace h5 : Boxed W (L + 1) 3 (.int .i64 (R2 : Int)) := by rw [← show S2 = R2 from congrArg Prod.snd hs]; exact h5
      clear hs hsc
      clear v0 v1 v2 v3 hb5 q0 q1 y1 y2 c5 hX5 hseq u1 u2 t0' t1' c4 HAB HMK5 HMA HR ix0
      have hD5 : M + 4 ≤ D := by have := S5.out; omega
      clear hD S5 s5
      have hDL : L + 6 ≤ D := by omega
      gi_wp2
      rw [roundsIn_succ]
      clear s4 hML hD5
      rename World => w4
      obtain ⟨M, s4⟩ : ∃ M, w4.heap.size = M := ⟨_, rfl⟩
      have hDM : D < M := by rw [← s4]; exact (Array.getElem?_eq_some_iff.1 hK).1
      have hML : L + 2 ≤ M := by omega
      have c4 := h1
      have t0' := h2
      have t1' := h3
      have u1 := h4
      have u2 := h5
      clear h1 h2 h3 h4 h5
      have HAB : Hid (∀ q : Nat, M ≤ q → Abide q (fun _ => False) (fun (_ : Nat) (W : World) => W.heap[D]? = some (.deferred (some [])))) := Lib.hid (fun q hq => Abide.block (by omega) (fun h => h))
      have HMK5 : Hid (∀ W, Below M w4 W → W.heap[D]? = some (.deferred (some []))) := Lib.hid fun W hb => (hb.block D (by omega)).trans hK
      have HMA : Hid (∀ {W : World} (W' : World), (∀ r, r ≠ L → r ≠ L + 1 → r ≠ M → W'.heap[r]? = W.heap[r]?) → W.heap[D]? = some (.deferred (some [])) → W'.heap[D]? = some (.deferred (some []))) := Lib.hid (fun W' h hmk => (h D (by omega) (by omega) (by omega)).trans hmk)
      have w5e : ∃ w5, (((w4.alloc (.cells #[.int .i64 0] 3)).alloc (.cells #[.pointer (some ⟨X, 0, none⟩)] 40)).alloc (.cells #[.int .i64 (p : Int)] 3)).alloc (.cells #[.int .i64 (1)] 3) = w5 := ⟨_, rfl⟩
      obtain ⟨w5, hw5⟩ := w5e
      have v0 := (((Boxed.new w4 3 (.int .i64 0)).alloc (.cells #[.pointer (some ⟨X, 0, none⟩)] 40)).alloc (.cells #[.int .i64 (p : Int)] 3)).alloc (.cells #[.int .i64 (1)] 3)
      have v1 := ((Boxed.new (w4.alloc (.cells #[.int .i64 0] 3)) 40 (.pointer (some ⟨X, 0, none⟩))).alloc (.cells #[.int .i64 (p : Int)] 3)).alloc (.cells #[.int .i64 (1)] 3)
      have v2 := (Boxed.new ((w4.alloc (.cells #[.int .i64 0] 3)).alloc (.cells #[.pointer (some ⟨X, 0, none⟩)] 40)) 3 (.int .i64 (p : Int))).alloc (.cells #[.int .i64 (1)] 3)
      have v3 := Boxed.new (((w4.alloc (.cells #[.int .i64 0] 3)).alloc (.cells #[.pointer (some ⟨X, 0, none⟩)] 40)).alloc (.cells #[.int .i64 (p : Int)] 3)) 3 (.int .i64 (1))
      have hb5 : Below w4.heap.size w4 ((((w4.alloc (.cells #[.int .i64 0] 3)).alloc (.cells #[.pointer (some ⟨X, 0, none⟩)] 40)).alloc (.cells #[.int .i64 (p : Int)] 3)).alloc (.cells #[.int .i64 (1)] 3)) := ((((Below.refl _ _).alloc (Nat.le_refl _) _).alloc (by simp) _).alloc (by simp; omega) _).alloc (by simp; omega) _
      have s5 : ((((w4.alloc (.cells #[.int .i64 0] 3)).alloc (.cells #[.pointer (some ⟨X, 0, none⟩)] 40)).alloc (.cells #[.int .i64 (p : Int)] 3)).alloc (.cells #[.int .i64 (1)] 3)).heap.size = M + 4 := by simp [s4]
      rw [hw5] at v0 v1 v2 v3 hb5 s5
      simp only [World.size_alloc, s4] at v0 v1 v2 v3 hb5
      have q0 : Boxed w5 B 3 (.int .i64 (i : Int)) := (hb5.block _ (by omega)).trans t0'
      have q1 : Boxed w5 (B + 1) 3 (.int .i64 (walk : Int)) := (hb5.block _ (by omega)).trans t1'
      have y1 : Boxed w5 L 3 (.int .i64 ((R1 : Int))) := (hb5.block _ (by omega)).trans u1
      have y2 : Boxed w5 (L + 1) 3 (.int .i64 ((R2 : Int))) := (hb5.block _ (by omega)).trans u2
      have c5 : Below B w w5 := c4.trans (hb5.mono (by omega))
      have hX5 := hX.below (show Below w.heap.size w w5 by rw [hB]; exact c5)
      have hseq := nb_seq 8 (M + 1) (M + 1 + 1) (M + 1 + 1 + 1) X g1 g2 g3 g4 g5 (by omega) n b o pl hn ab cb HL.out p hpn (1) ((n - 1 - p)) (by omega) (nbR b o p) _ _ _ (HNR.out) w5 v1 v2 v3 hX5
      have S5 := Lib.hid s5
      gi_wp2_with (refine ⟨trivial, ?_⟩; gi_at_call 25; refine (callsIn_wide.2 (neighbours_any _ _ rfl _ _)).mono ?_; rintro e w6 ⟨rfl, rfl⟩)
      try rw [hw5]
      clear hw5
      refine wpIn_rangeN rfl (by omega) (gf := 37) (lb := #[.pointer (some ⟨M + 1, 0, none⟩), .pointer (some ⟨M + 1 + 1, 0, none⟩), .pointer (some ⟨M + 1 + 1 + 1, 0, none⟩)]) rfl trivial (enters_of Try.func37 (by kernel_rfl) rfl) hseq
        (fun r hr => by rcases hr with h | h | h | h | h <;> omega) (fun r hr => hr.elim) (Below.refl _ _) (fun _ => rfl)
        (fun k W => Below B w W ∧ Boxed W B 3 (.int .i64 (i : Int)) ∧ Boxed W (B + 1) 3 (.int .i64 (walk : Int)) ∧ Boxed W L 3 (.int .i64 ((R1 : Int))) ∧ Boxed W (L + 1) 3 (.int .i64 ((R2 : Int))) ∧ Boxed W M 3 (.int .i64 (k : Int)) ∧ ((fun W : World => W.heap[D]? = some (.deferred (some [])))) W ∧ Hid (scan i walk (nbR b o p) (((n - 1 - p)) - k) k ((R1, R2)) = (T1, T2)))
        (fun c k W => c = .exit 2 ∧ Below B w W ∧ Boxed W B 3 (.int .i64 (i : Int)) ∧ Boxed W (B + 1) 3 (.int .i64 (walk : Int)) ∧ Boxed W L 3 (.int .i64 (T1 : Int)) ∧ Boxed W (L + 1) 3 (.int .i64 (T2 : Int)) ∧ ((fun W : World => W.heap[D]? = some (.deferred (some [])))) W)
        ?hIB ?hIxB ?h0B ?_ ?assignB ?bodyB ?doneB ?stopB
      case assignB =>
        intro l k W K hK
        dsimp only [nbE]
        gi_wp2
        exact hK
      case hIB => exact (Abide.below (by omega) (by omega) (fun r hr => hr.elim)).and ((Abide.boxed _ (fun _ => _) (fun h => h)).and ((Abide.boxed _ (fun _ => _) (fun h => h)).and ((Abide.boxed _ (fun _ => _) (fun h => h)).and ((Abide.boxed _ (fun _ => _) (fun h => h)).and ((Abide.boxed _ (fun k : Nat => Value.int .i64 (k : Int)) (fun h => h)).and ((HAB.out _ (by omega)).and (Abide.pure _)))))))
      case hIxB => exact fun c => (Abide.pure (fun _ => c = .exit 2)).and ((Abide.below (by omega) (by omega) (fun r hr => hr.elim)).and ((Abide.boxed _ (fun _ => _) (fun h => h)).and ((Abide.boxed _ (fun _ => _) (fun h => h)).and ((Abide.boxed _ (fun _ => _) (fun h => h)).and ((Abide.boxed _ (fun _ => _) (fun h => h)).and (HAB.out _ (by omega)))))))
      case h0B => exact ⟨c5, q0, q1, y1, y2, v0, HMK5.out _ hb5, Lib.hid (by rw [Nat.sub_zero]; exact (HT).out)⟩
      case bodyB =>
        rintro l k W ⟨h1, h2, h3, h4, h5, h6, hmk, hsc⟩ hk
        have hs := hsc.out
        rw [show ((n - 1 - p)) - k = (((n - 1 - p)) - (k + 1)) + 1 by omega, scan] at hs
        have hfb := (HNR.out).fb k
        have hf1 := (HNR.out).f1 k hk
        have hpn1 := ((HNR.out).pn k hk).1
        have hF1n : ((nbR b o p) k).1 < n := by rw [hf1]; have := HO.out.ord.lt (p := _) (show _ < b.length by rw [HL.out]; exact hpn1); rw [HL.out] at this; exact this
        clear hsc hf1 hpn1 hseq v0 v1 v2 v3 hb5 q0 q1 y1 y2 c5 hX5
        generalize (nbR b o p) k = fk at *
        obtain ⟨F1, F2⟩ := fk
        dsimp only at hs hfb hF1n ⊢
        have e0 := h2.cell
        have e1 := h3.cell
        have e2 := h4.cell
        have e3 := h5.cell
        have e4 := h6.cell
        have f4 := h6.frozen
        by_cases a1 : F2 < 3
        · rw [if_pos (.inl a1)] at hs
          have hs1 := congrArg Prod.fst hs
          have hs2 := congrArg Prod.snd hs
          dsimp only at hs1 hs2
          have HS1 := Lib.hid hs1; clear hs1
          have HS2 := Lib.hid hs2; clear hs2
          have a1' : (F2 : Int) < 3 := by omega
          clear hs
          gi_wp2
          refine ⟨KeepsFrom.refl _ _, rfl, h1, h2, h3, by rw [← HS1.out]; exact h4, by rw [← HS2.out]; exact h5, hmk⟩
        · have a1' : ¬ (F2 : Int) < 3 := by omega
          by_cases a2 : F2 ≤ R1
          · rw [if_pos (.inr a2)] at hs
            have hs1 := congrArg Prod.fst hs
            have hs2 := congrArg Prod.snd hs
            dsimp only at hs1 hs2
            have HS1 := Lib.hid hs1; clear hs1
            have HS2 := Lib.hid hs2; clear hs2
            clear hs
            gi_wp2
            refine ⟨KeepsFrom.refl _ _, rfl, h1, h2, h3, by rw [← HS1.out]; exact h4, by rw [← HS2.out]; exact h5, hmk⟩
          · rw [if_neg (fun h => h.elim a1 a2)] at hs
            by_cases a3 : F1 < i
            · have a3' : (F1 : Int) < (i : Int) := by omega
              obtain ⟨dd, hdd⟩ : ∃ dd, i - F1 = dd := ⟨_, rfl⟩
              have hd1 : (i : Int) - (F1 : Int) = (dd : Int) := by omega
              have wd1 : IntKind.i64.wrap (dd : Int) = (dd : Int) := IntWalk.i64_in _ (by omega)
              rw [hdd] at hs
              have HD1 := Lib.hid hdd; clear hdd
              by_cases a4 : dd ≤ 32768
              · have a4' : (dd : Int) ≤ 32768 := by omega
                rw [if_pos ⟨a3, a4⟩] at hs
                have hs1 := congrArg Prod.fst hs
                have hs2 := congrArg Prod.snd hs
                dsimp only at hs1 hs2
                have HS1 := Lib.hid hs1; clear hs1
                have HS2 := Lib.hid hs2; clear hs2
                clear hs
                gi_wp2
                have d2 : Boxed W.drew B 3 (.int .i64 (i : Int)) := h2
                have d3 : Boxed W.drew (B + 1) 3 (.int .i64 (walk : Int)) := h3
                have d4 : Boxed W.drew L 3 _ := h4
                have d5 : Boxed W.drew (L + 1) 3 _ := h5
                have hks : KeepsOthers W W.drew := KeepsOthers.drew W
                have hmk2 := HMA.out W.drew (fun r _ _ _ => rfl) hmk
                have i2 := ((d2.other (B' := L) (by omega) (.int .i64 (F2 : Int))).other (B' := L + 1) (by omega) (.int .i64 (dd : Int)))
                have i3 := ((d3.other (B' := L) (by omega) (.int .i64 (F2 : Int))).other (B' := L + 1) (by omega) (.int .i64 (dd : Int)))
                have i4 := ((d4.set (.int .i64 (F2 : Int))).other (B' := L + 1) (by omega) (.int .i64 (dd : Int)))
                have i5 := ((d5.other (B' := L) (by omega) (.int .i64 (F2 : Int))).set (.int .i64 (dd : Int)))
                have i1 := ((h1.drew.setCell (p := ⟨L, 0, none⟩) (by simp; omega) (.int .i64 (F2 : Int))).setCell (p := ⟨L + 1, 0, none⟩) (by simp; omega) (.int .i64 (dd : Int)))
                have im := HMA.out ((W.drew.setCell ⟨L, 0, none⟩ (.int .i64 (F2 : Int))).setCell ⟨L + 1, 0, none⟩ (.int .i64 (dd : Int))) (fun r ra rb rc => (Below.heap_setCell _ _ _ r (by simp; omega)).trans (Below.heap_setCell _ _ _ r (by simp; omega))) hmk2
                have fz4 := h4.frozen
                have fz5 := h5.frozen
                have x4 := d4.cell
                have x5 := d5.cell
                have y4 := d4.frozen
                have y5 := d5.frozen
                have z5 := (d5.other (B' := L) (by omega) (.int .i64 (F2 : Int))).cell
                have z4 := (d4.other (B' := L + 1) (by omega) (.int .i64 (dd : Int))).cell
                have k5 := (d5.other (B' := L) (by omega) (.int .i64 (F2 : Int))).frozen
                have k4 := (d4.other (B' := L + 1) (by omega) (.int .i64 (dd : Int))).frozen
                have s2 := (d2.other (B' := L) (by omega) (.int .i64 (F2 : Int))).cell
                have s3 := (d2.other (B' := L + 1) (by omega) (.int .i64 (dd : Int))).cell
                refine regionT [0, 1, 2, 3] (fun w' => w'.cell? ⟨B, 0, none⟩ = some (.int .i64 (i : Int))) (by kernel_rfl) ?_
                have hSS : (fun w' : World => w'.cell? ⟨B, 0, none⟩ = some (.int .i64 (i : Int))) W.drew := e0
                refine AnyT.take (i := 0) (v := ?_) (by decide) (by kernel_rfl) rfl (by kernel_rfl) (by kernel_rfl) (by kernel_rfl) (by kernel_rfl) (fun _ _ _ h => h) (by assumption) (by rfl) (fun _ => rfl) ?_ ?_
                rotate_left
                focus (intro w hSw; (try dsimp only at hSw); go_split_ands; go_simp; (try with_reducible rfl))
                (try simp only [Act.put, List.setIfInBounds_toArray, List.set_cons_zero, List.set_cons_succ, Array.setIfInBounds_toArray])
                refine AnyT.take (i := 1) (v := ?_) (by decide) (by kernel_rfl) rfl (by kernel_rfl) (by kernel_rfl) (by kernel_rfl) (by kernel_rfl) (fun _ _ _ h => h) (by assumption) (by rfl) (fun _ => rfl) ?_ ?_
                rotate_left
                focus (intro w hSw; (try dsimp only at hSw); go_split_ands; go_simp; (try with_reducible rfl))
                (try simp only [Act.put, List.setIfInBounds_toArray, List.set_cons_zero, List.set_cons_succ, Array.setIfInBounds_toArray])
                refine AnyT.take (i := 2) (v := ?_) (by decide) (by kernel_rfl) rfl (by kernel_rfl) (by kernel_rfl) (by kernel_rfl) (by kernel_rfl) (fun _ _ _ h => h) (by assumption) (by rfl) (fun _ => rfl) ?_ ?_
                rotate_left
                focus (intro w hSw; (try dsimp only at hSw); go_split_ands; go_simp; (try with_reducible rfl))
                (try simp only [Act.put, List.setIfInBounds_toArray, List.set_cons_zero, List.set_cons_succ, Array.setIfInBounds_toArray])
                refine AnyT.take (i := 3) (v := ?_) (by decide) (by kernel_rfl) rfl (by kernel_rfl) (by kernel_rfl) (by kernel_rfl) (by kernel_rfl) (fun _ _ _ h => h) (by assumption) (by rfl) (fun _ => rfl) ?_ ?_
                rotate_left
                focus (intro w hSw; (try dsimp only at hSw); go_split_ands; go_simp; (try with_reducible rfl))
                (try simp only [Act.put, List.setIfInBounds_toArray, List.set_cons_zero, List.set_cons_succ, Array.setIfInBounds_toArray])
                refine AnyT.only (i := 4) (by kernel_rfl) rfl (by rfl) (fun K hK => ?_)
                go_simp
                refine hK.out _ _ (fun _ => s2) ?_
                clear hK K
                refine AnyT.only (i := 5) (by kernel_rfl) rfl (by rfl) (fun K hK => ?_)
                go_simp
                refine hK.out _ _ (fun _ => i2.cell) ?_
                clear hK K
                refine AnyT.done (by kernel_rfl) ?_ _
                gi_wp2
                refine ⟨(hks.trans ((KeepsOthers.setCell _ _ _).trans (KeepsOthers.setCell _ _ _))).from _, rfl, i1, i2, i3, by rw [← HS1.out]; exact i4, by rw [← HS2.out]; exact i5, im⟩
              · have a4' : ¬ (dd : Int) ≤ 32768 := by omega
                rw [if_neg (fun h => a4 h.2)] at hs
                have z6 := h6.set (.int .i64 ((k : Int) + 1))
                have z1 := h1.setCell (p := ⟨M, 0, none⟩) (by simp; omega) (.int .i64 ((k : Int) + 1))
                have z2 := h2.other (B' := M) (by omega) (.int .i64 ((k : Int) + 1))
                have z3 := h3.other (B' := M) (by omega) (.int .i64 ((k : Int) + 1))
                have z4 := h4.other (B' := M) (by omega) (.int .i64 ((k : Int) + 1))
                have z5 := h5.other (B' := M) (by omega) (.int .i64 ((k : Int) + 1))
                have zk := HMA.out (W.setCell ⟨M, 0, none⟩ (.int .i64 ((k : Int) + 1))) (fun r ra rb rc => Below.heap_setCell _ _ _ r (by simp; omega)) hmk
                have e6 := z6.cell
                have e3' := z3.cell
                have wk1 : IntKind.i64.wrap ((k : Int) + 1) = ((k : Int) + 1) := IntWalk.i64_in _ (by omega)
                have hks : KeepsOthers W (W.setCell ⟨M, 0, none⟩ (.int .i64 ((k : Int) + 1))) := KeepsOthers.setCell _ _ _
                have hkb : KeepB (nmine (M + 1) (M + 1 + 1 + 1) X g1 g3) W (W.setCell ⟨M, 0, none⟩ (.int .i64 ((k : Int) + 1))) := fun r hr => Below.heap_setCell _ _ _ r (by simp; rcases hr with h | h | h | h | h <;> omega)
                by_cases hkw : k + 1 = walk
                · rw [if_pos hkw] at hs
                  have hs1 := congrArg Prod.fst hs
                  have hs2 := congrArg Prod.snd hs
                  dsimp only at hs1 hs2
                  have HS1 := Lib.hid hs1; clear hs1
                  have HS2 := Lib.hid hs2; clear hs2
                  have hkw3 : ((k : Int) + 1 == (walk : Int)) = true := by rw [← hkw]; simp
                  clear hs hkw
                  gi_wp2
                  refine ⟨hks.from _, rfl, z1, z2, z3, by rw [← HS1.out]; exact z4, by rw [← HS2.out]; exact z5, zk⟩
                · rw [if_neg hkw] at hs
                  have hkw3 : ((k : Int) + 1 == (walk : Int)) = false := beq_eq_false_iff_ne.2 (by omega)
                  have HSS := Lib.hid hs; clear hs hkw
                  gi_wp2
                  refine ⟨hks.from _, hkb, z1, z2, z3, z4, z5, z6, zk, HSS⟩
            · have a3' : ¬ (F1 : Int) < (i : Int) := by omega
              rw [if_neg (fun h => a3 h.1)] at hs
              have z6 := h6.set (.int .i64 ((k : Int) + 1))
              have z1 := h1.setCell (p := ⟨M, 0, none⟩) (by simp; omega) (.int .i64 ((k : Int) + 1))
              have z2 := h2.other (B' := M) (by omega) (.int .i64 ((k : Int) + 1))
              have z3 := h3.other (B' := M) (by omega) (.int .i64 ((k : Int) + 1))
              have z4 := h4.other (B' := M) (by omega) (.int .i64 ((k : Int) + 1))
              have z5 := h5.other (B' := M) (by omega) (.int .i64 ((k : Int) + 1))
              have zk := HMA.out (W.setCell ⟨M, 0, none⟩ (.int .i64 ((k : Int) + 1))) (fun r ra rb rc => Below.heap_setCell _ _ _ r (by simp; omega)) hmk
              have e6 := z6.cell
              have e3' := z3.cell
              have wk1 : IntKind.i64.wrap ((k : Int) + 1) = ((k : Int) + 1) := IntWalk.i64_in _ (by omega)
              have hks : KeepsOthers W (W.setCell ⟨M, 0, none⟩ (.int .i64 ((k : Int) + 1))) := KeepsOthers.setCell _ _ _
              have hkb : KeepB (nmine (M + 1) (M + 1 + 1 + 1) X g1 g3) W (W.setCell ⟨M, 0, none⟩ (.int .i64 ((k : Int) + 1))) := fun r hr => Below.heap_setCell _ _ _ r (by simp; rcases hr with h | h | h | h | h <;> omega)
              by_cases hkw : k + 1 = walk
              · rw [if_pos hkw] at hs
                have hs1 := congrArg Prod.fst hs
                have hs2 := congrArg Prod.snd hs
                dsimp only at hs1 hs2
                have HS1 := Lib.hid hs1; clear hs1
                have HS2 := Lib.hid hs2; clear hs2
                have hkw3 : ((k : Int) + 1 == (walk : Int)) = true := by rw [← hkw]; simp
                clear hs hkw
                gi_wp2
                refine ⟨hks.from _, rfl, z1, z2, z3, by rw [← HS1.out]; exact z4, by rw [← HS2.out]; exact z5, zk⟩
              · rw [if_neg hkw] at hs
                have hkw3 : ((k : Int) + 1 == (walk : Int)) = false := beq_eq_false_iff_ne.2 (by omega)
                have HSS := Lib.hid hs; clear hs hkw
                gi_wp2
                refine ⟨hks.from _, hkb, z1, z2, z3, z4, z5, z6, zk, HSS⟩
      case doneB =>
        rintro D2 W hD2 ⟨h1, h2, h3, h4, h5, _, hmk, hsc⟩ hK2
        have hs := hsc.out
        rw [Nat.sub_self, scan] at hs
        replace h4 : Boxed W L 3 (.int .i64 (T1 : Int)) := by rw [← show R1 = T1 from congrArg Prod.fst hs]; exact h4
        replace h5 : Boxed W (L + 1) 3 (.int .i64 (T2 : Int)) := by rw [← show R2 = T2 from congrArg Prod.snd hs]; exact h5
        clear hs hsc
        clear v0 v1 v2 v3 hb5 q0 q1 y1 y2 c5 hX5 hseq u1 u2 t0' t1' c4 HAB HMK5 HMA ix1
        gi_wp2
        rw [roundsIn_succ]
        gi_wp2
        have e4 := h4.cell
        have e5 := h5.cell
        (try simp only [List.append])
        refine wpIn_region_quiet_lit rfl (by kernel_rfl) (by kernel_rfl) ?_
        repeat (gi_big_quiet_step (fail))
        refine wpQuietIn_nil ?_
        intro _ hw'
        obtain ⟨nq, hw''⟩ := hw'
        subst hw''
        have hmn : (if (258 : Int) < (T1 : Int) then (258 : Int) else (T1 : Int)) = ((min T1 258 : Nat) : Int) := by split <;> omega
        have m1 : (W.drewN nq).heap[D2]? = some (Obj.deferred (some [])) := hK2
        have hDD : D ≠ D2 := by have := S5.out; omega
        have m2 : ((W.drewN nq).putObj D2 (.deferred none)).heap[D]? = some (Obj.deferred (some [])) := (World.putObj_heap_other hDD).trans hmk
        have bel1 := (bDraws h1 nq).trans (belowK_b (n₀ := B) (w := w) (by omega) (W.drewN nq) D2 _ (.deferred none) (by omega) m1 rfl rfl)
        have bel2 := bel1.trans (belowK_b (n₀ := B) (w := w) (by omega) _ D _ (.deferred none) (by omega) m2 rfl rfl)
        have BEL := Lib.hid bel2; clear bel1 bel2 e4 e5
        rcases Nat.lt_or_ge 258 T1 with hT | hT
        · have hT' : (258 : Int) < (T1 : Int) := by omega
          have hme : ((min T1 258 : Nat) : Int) = 258 := by omega
          clear hmn
          gi_wp2
          refine ⟨by simp, .inl ⟨_, _, rfl, run_takeDeferred m1, ?_⟩⟩
          refine ⟨by simp, .inl ⟨_, _, rfl, run_takeDeferred m2, ?_⟩⟩
          refine ⟨_, results_tmp2 rfl _ _ _, by rw [HRS.out]; dsimp only; rw [hme]; rfl, by first | exact BEL.out | (rw [hB]; exact BEL.out)⟩
        · have hT' : ¬ (258 : Int) < (T1 : Int) := by omega
          have hme : ((min T1 258 : Nat) : Int) = (T1 : Int) := by omega
          clear hmn
          gi_wp2
          refine ⟨by simp, .inl ⟨_, _, rfl, run_takeDeferred m1, ?_⟩⟩
          refine ⟨by simp, .inl ⟨_, _, rfl, run_takeDeferred m2, ?_⟩⟩
          refine ⟨_, results_tmp2 rfl _ _ _, by rw [HRS.out]; dsimp only; rw [hme]; rfl, by first | exact BEL.out | (rw [hB]; exact BEL.out)⟩
      case stopB =>
        rintro D2 c k W hD2 hk ⟨rfl, h1, h2, h3, h4, h5, hmk⟩ hK2
        clear v0 v1 v2 v3 hb5 q0 q1 y1 y2 c5 hX5 hseq u1 u2 t0' t1' c4 HAB HMK5 HMA ix1
        gi_wp2
        rw [roundsIn_succ]
        gi_wp2
        have e4 := h4.cell
        have e5 := h5.cell
        (try simp only [List.append])
        refine wpIn_region_quiet_lit rfl (by kernel_rfl) (by kernel_rfl) ?_
        repeat (gi_big_quiet_step (fail))
        refine wpQuietIn_nil ?_
        intro _ hw'
        obtain ⟨nq, hw''⟩ := hw'
        subst hw''
        have hmn : (if (258 : Int) < (T1 : Int) then (258 : Int) else (T1 : Int)) = ((min T1 258 : Nat) : Int) := by split <;> omega
        have m1 : (W.drewN nq).heap[D2]? = some (Obj.deferred (some [])) := hK2
        have hDD : D ≠ D2 := by have := S5.out; omega
        have m2 : ((W.drewN nq).putObj D2 (.deferred none)).heap[D]? = some (Obj.deferred (some [])) := (World.putObj_heap_other hDD).trans hmk
        have bel1 := (bDraws h1 nq).trans (belowK_b (n₀ := B) (w := w) (by omega) (W.drewN nq) D2 _ (.deferred none) (by omega) m1 rfl rfl)
        have bel2 := bel1.trans (belowK_b (n₀ := B) (w := w) (by omega) _ D _ (.deferred none) (by omega) m2 rfl rfl)
        have BEL := Lib.hid bel2; clear bel1 bel2 e4 e5
        rcases Nat.lt_or_ge 258 T1 with hT | hT
        · have hT' : (258 : Int) < (T1 : Int) := by omega
          have hme : ((min T1 258 : Nat) : Int) = 258 := by omega
          clear hmn
          gi_wp2
          refine ⟨by simp, .inl ⟨_, _, rfl, run_takeDeferred m1, ?_⟩⟩
          refine ⟨by simp, .inl ⟨_, _, rfl, run_takeDeferred m2, ?_⟩⟩
          refine ⟨_, results_tmp2 rfl _ _ _, by rw [HRS.out]; dsimp only; rw [hme]; rfl, by first | exact BEL.out | (rw [hB]; exact BEL.out)⟩
        · have hT' : ¬ (258 : Int) < (T1 : Int) := by omega
          have hme : ((min T1 258 : Nat) : Int) = (T1 : Int) := by omega
          clear hmn
          gi_wp2
          refine ⟨by simp, .inl ⟨_, _, rfl, run_takeDeferred m1, ?_⟩⟩
          refine ⟨by simp, .inl ⟨_, _, rfl, run_takeDeferred m2, ?_⟩⟩
          refine ⟨_, results_tmp2 rfl _ _ _, by rw [HRS.out]; dsimp only; rw [hme]; rfl, by first | exact BEL.out | (rw [hB]; exact BEL.out)⟩
    case stopA =>
      rintro D c k W hD hk ⟨rfl, h1, h2, h3, h4, h5, _⟩ hK
      clear v0 v1 v2 v3 hb5 q0 q1 y1 y2 c5 hX5 hseq u1 u2 t0' t1' c4 HAB HMK5 HMA HR ix0
      have hD5 : M + 4 ≤ D := by have := S5.out; omega
      clear hD S5 s5
      have hDL : L + 6 ≤ D := by omega
      gi_wp2
      rw [roundsIn_succ]
      clear s4 hML hD5
      rename World => w4
      obtain ⟨M, s4⟩ : ∃ M, w4.heap.size = M := ⟨_, rfl⟩
      have hDM : D < M := by rw [← s4]; exact (Array.getElem?_eq_some_iff.1 hK).1
      have hML : L + 2 ≤ M := by omega
      have c4 := h1
      have t0' := h2
      have t1' := h3
      have u1 := h4
      have u2 := h5
      clear h1 h2 h3 h4 h5
      have HAB : Hid (∀ q : Nat, M ≤ q → Abide q (fun _ => False) (fun (_ : Nat) (W : World) => W.heap[D]? = some (.deferred (some [])))) := Lib.hid (fun q hq => Abide.block (by omega) (fun h => h))
      have HMK5 : Hid (∀ W, Below M w4 W → W.heap[D]? = some (.deferred (some []))) := Lib.hid fun W hb => (hb.block D (by omega)).trans hK
      have HMA : Hid (∀ {W : World} (W' : World), (∀ r, r ≠ L → r ≠ L + 1 → r ≠ M → W'.heap[r]? = W.heap[r]?) → W.heap[D]? = some (.deferred (some [])) → W'.heap[D]? = some (.deferred (some []))) := Lib.hid (fun W' h hmk => (h D (by omega) (by omega) (by omega)).trans hmk)
      have w5e : ∃ w5, (((w4.alloc (.cells #[.int .i64 0] 3)).alloc (.cells #[.pointer (some ⟨X, 0, none⟩)] 40)).alloc (.cells #[.int .i64 (p : Int)] 3)).alloc (.cells #[.int .i64 (1)] 3) = w5 := ⟨_, rfl⟩
      obtain ⟨w5, hw5⟩ := w5e
      have v0 := (((Boxed.new w4 3 (.int .i64 0)).alloc (.cells #[.pointer (some ⟨X, 0, none⟩)] 40)).alloc (.cells #[.int .i64 (p : Int)] 3)).alloc (.cells #[.int .i64 (1)] 3)
      have v1 := ((Boxed.new (w4.alloc (.cells #[.int .i64 0] 3)) 40 (.pointer (some ⟨X, 0, none⟩))).alloc (.cells #[.int .i64 (p : Int)] 3)).alloc (.cells #[.int .i64 (1)] 3)
      have v2 := (Boxed.new ((w4.alloc (.cells #[.int .i64 0] 3)).alloc (.cells #[.pointer (some ⟨X, 0, none⟩)] 40)) 3 (.int .i64 (p : Int))).alloc (.cells #[.int .i64 (1)] 3)
      have v3 := Boxed.new (((w4.alloc (.cells #[.int .i64 0] 3)).alloc (.cells #[.pointer (some ⟨X, 0, none⟩)] 40)).alloc (.cells #[.int .i64 (p : Int)] 3)) 3 (.int .i64 (1))
      have hb5 : Below w4.heap.size w4 ((((w4.alloc (.cells #[.int .i64 0] 3)).alloc (.cells #[.pointer (some ⟨X, 0, none⟩)] 40)).alloc (.cells #[.int .i64 (p : Int)] 3)).alloc (.cells #[.int .i64 (1)] 3)) := ((((Below.refl _ _).alloc (Nat.le_refl _) _).alloc (by simp) _).alloc (by simp; omega) _).alloc (by simp; omega) _
      have s5 : ((((w4.alloc (.cells #[.int .i64 0] 3)).alloc (.cells #[.pointer (some ⟨X, 0, none⟩)] 40)).alloc (.cells #[.int .i64 (p : Int)] 3)).alloc (.cells #[.int .i64 (1)] 3)).heap.size = M + 4 := by simp [s4]
      rw [hw5] at v0 v1 v2 v3 hb5 s5
      simp only [World.size_alloc, s4] at v0 v1 v2 v3 hb5
      have q0 : Boxed w5 B 3 (.int .i64 (i : Int)) := (hb5.block _ (by omega)).trans t0'
      have q1 : Boxed w5 (B + 1) 3 (.int .i64 (walk : Int)) := (hb5.block _ (by omega)).trans t1'
      have y1 : Boxed w5 L 3 (.int .i64 ((R1 : Int))) := (hb5.block _ (by omega)).trans u1
      have y2 : Boxed w5 (L + 1) 3 (.int .i64 ((R2 : Int))) := (hb5.block _ (by omega)).trans u2
      have c5 : Below B w w5 := c4.trans (hb5.mono (by omega))
      have hX5 := hX.below (show Below w.heap.size w w5 by rw [hB]; exact c5)
      have hseq := nb_seq 8 (M + 1) (M + 1 + 1) (M + 1 + 1 + 1) X g1 g2 g3 g4 g5 (by omega) n b o pl hn ab cb HL.out p hpn (1) ((n - 1 - p)) (by omega) (nbR b o p) _ _ _ (HNR.out) w5 v1 v2 v3 hX5
      have S5 := Lib.hid s5
      gi_wp2_with (refine ⟨trivial, ?_⟩; gi_at_call 25; refine (callsIn_wide.2 (neighbours_any _ _ rfl _ _)).mono ?_; rintro e w6 ⟨rfl, rfl⟩)
      try rw [hw5]
      clear hw5
      refine wpIn_rangeN rfl (by omega) (gf := 37) (lb := #[.pointer (some ⟨M + 1, 0, none⟩), .pointer (some ⟨M + 1 + 1, 0, none⟩), .pointer (some ⟨M + 1 + 1 + 1, 0, none⟩)]) rfl trivial (enters_of Try.func37 (by kernel_rfl) rfl) hseq
        (fun r hr => by rcases hr with h | h | h | h | h <;> omega) (fun r hr => hr.elim) (Below.refl _ _) (fun _ => rfl)
        (fun k W => Below B w W ∧ Boxed W B 3 (.int .i64 (i : Int)) ∧ Boxed W (B + 1) 3 (.int .i64 (walk : Int)) ∧ Boxed W L 3 (.int .i64 ((R1 : Int))) ∧ Boxed W (L + 1) 3 (.int .i64 ((R2 : Int))) ∧ Boxed W M 3 (.int .i64 (k : Int)) ∧ ((fun W : World => W.heap[D]? = some (.deferred (some [])))) W ∧ Hid (scan i walk (nbR b o p) (((n - 1 - p)) - k) k ((R1, R2)) = (T1, T2)))
        (fun c k W => c = .exit 2 ∧ Below B w W ∧ Boxed W B 3 (.int .i64 (i : Int)) ∧ Boxed W (B + 1) 3 (.int .i64 (walk : Int)) ∧ Boxed W L 3 (.int .i64 (T1 : Int)) ∧ Boxed W (L + 1) 3 (.int .i64 (T2 : Int)) ∧ ((fun W : World => W.heap[D]? = some (.deferred (some [])))) W)
        ?hIB ?hIxB ?h0B ?_ ?assignB ?bodyB ?doneB ?stopB
      case assignB =>
        intro l k W K hK
        dsimp only [nbE]
        gi_wp2
        exact hK
      case hIB => exact (Abide.below (by omega) (by omega) (fun r hr => hr.elim)).and ((Abide.boxed _ (fun _ => _) (fun h => h)).and ((Abide.boxed _ (fun _ => _) (fun h => h)).and ((Abide.boxed _ (fun _ => _) (fun h => h)).and ((Abide.boxed _ (fun _ => _) (fun h => h)).and ((Abide.boxed _ (fun k : Nat => Value.int .i64 (k : Int)) (fun h => h)).and ((HAB.out _ (by omega)).and (Abide.pure _)))))))
      case hIxB => exact fun c => (Abide.pure (fun _ => c = .exit 2)).and ((Abide.below (by omega) (by omega) (fun r hr => hr.elim)).and ((Abide.boxed _ (fun _ => _) (fun h => h)).and ((Abide.boxed _ (fun _ => _) (fun h => h)).and ((Abide.boxed _ (fun _ => _) (fun h => h)).and ((Abide.boxed _ (fun _ => _) (fun h => h)).and (HAB.out _ (by omega)))))))
      case h0B => exact ⟨c5, q0, q1, y1, y2, v0, HMK5.out _ hb5, Lib.hid (by rw [Nat.sub_zero]; exact (HT).out)⟩
      case bodyB =>
        rintro l k W ⟨h1, h2, h3, h4, h5, h6, hmk, hsc⟩ hk
        have hs := hsc.out
        rw [show ((n - 1 - p)) - k = (((n - 1 - p)) - (k + 1)) + 1 by omega, scan] at hs
        have hfb := (HNR.out).fb k
        have hf1 := (HNR.out).f1 k hk
        have hpn1 := ((HNR.out).pn k hk).1
        have hF1n : ((nbR b o p) k).1 < n := by rw [hf1]; have := HO.out.ord.lt (p := _) (show _ < b.length by rw [HL.out]; exact hpn1); rw [HL.out] at this; exact this
        clear hsc hf1 hpn1 hseq v0 v1 v2 v3 hb5 q0 q1 y1 y2 c5 hX5
        generalize (nbR b o p) k = fk at *
        obtain ⟨F1, F2⟩ := fk
        dsimp only at hs hfb hF1n ⊢
        have e0 := h2.cell
        have e1 := h3.cell
        have e2 := h4.cell
        have e3 := h5.cell
        have e4 := h6.cell
        have f4 := h6.frozen
        by_cases a1 : F2 < 3
        · rw [if_pos (.inl a1)] at hs
          have hs1 := congrArg Prod.fst hs
          have hs2 := congrArg Prod.snd hs
          dsimp only at hs1 hs2
          have HS1 := Lib.hid hs1; clear hs1
          have HS2 := Lib.hid hs2; clear hs2
          have a1' : (F2 : Int) < 3 := by omega
          clear hs
          gi_wp2
          refine ⟨KeepsFrom.refl _ _, rfl, h1, h2, h3, by rw [← HS1.out]; exact h4, by rw [← HS2.out]; exact h5, hmk⟩
        · have a1' : ¬ (F2 : Int) < 3 := by omega
          by_cases a2 : F2 ≤ R1
          · rw [if_pos (.inr a2)] at hs
            have hs1 := congrArg Prod.fst hs
            have hs2 := congrArg Prod.snd hs
            dsimp only at hs1 hs2
            have HS1 := Lib.hid hs1; clear hs1
            have HS2 := Lib.hid hs2; clear hs2
            clear hs
            gi_wp2
            refine ⟨KeepsFrom.refl _ _, rfl, h1, h2, h3, by rw [← HS1.out]; exact h4, by rw [← HS2.out]; exact h5, hmk⟩
          · rw [if_neg (fun h => h.elim a1 a2)] at hs
            by_cases a3 : F1 < i
            · have a3' : (F1 : Int) < (i : Int) := by omega
              obtain ⟨dd, hdd⟩ : ∃ dd, i - F1 = dd := ⟨_, rfl⟩
              have hd1 : (i : Int) - (F1 : Int) = (dd : Int) := by omega
              have wd1 : IntKind.i64.wrap (dd : Int) = (dd : Int) := IntWalk.i64_in _ (by omega)
              rw [hdd] at hs
              have HD1 := Lib.hid hdd; clear hdd
              by_cases a4 : dd ≤ 32768
              · have a4' : (dd : Int) ≤ 32768 := by omega
                rw [if_pos ⟨a3, a4⟩] at hs
                have hs1 := congrArg Prod.fst hs
                have hs2 := congrArg Prod.snd hs
                dsimp only at hs1 hs2
                have HS1 := Lib.hid hs1; clear hs1
                have HS2 := Lib.hid hs2; clear hs2
                clear hs
                gi_wp2
                have d2 : Boxed W.drew B 3 (.int .i64 (i : Int)) := h2
                have d3 : Boxed W.drew (B + 1) 3 (.int .i64 (walk : Int)) := h3
                have d4 : Boxed W.drew L 3 _ := h4
                have d5 : Boxed W.drew (L + 1) 3 _ := h5
                have hks : KeepsOthers W W.drew := KeepsOthers.drew W
                have hmk2 := HMA.out W.drew (fun r _ _ _ => rfl) hmk
                have i2 := ((d2.other (B' := L) (by omega) (.int .i64 (F2 : Int))).other (B' := L + 1) (by omega) (.int .i64 (dd : Int)))
                have i3 := ((d3.other (B' := L) (by omega) (.int .i64 (F2 : Int))).other (B' := L + 1) (by omega) (.int .i64 (dd : Int)))
                have i4 := ((d4.set (.int .i64 (F2 : Int))).other (B' := L + 1) (by omega) (.int .i64 (dd : Int)))
                have i5 := ((d5.other (B' := L) (by omega) (.int .i64 (F2 : Int))).set (.int .i64 (dd : Int)))
                have i1 := ((h1.drew.setCell (p := ⟨L, 0, none⟩) (by simp; omega) (.int .i64 (F2 : Int))).setCell (p := ⟨L + 1, 0, none⟩) (by simp; omega) (.int .i64 (dd : Int)))
                have im := HMA.out ((W.drew.setCell ⟨L, 0, none⟩ (.int .i64 (F2 : Int))).setCell ⟨L + 1, 0, none⟩ (.int .i64 (dd : Int))) (fun r ra rb rc => (Below.heap_setCell _ _ _ r (by simp; omega)).trans (Below.heap_setCell _ _ _ r (by simp; omega))) hmk2
                have fz4 := h4.frozen
                have fz5 := h5.frozen
                have x4 := d4.cell
                have x5 := d5.cell
                have y4 := d4.frozen
                have y5 := d5.frozen
                have z5 := (d5.other (B' := L) (by omega) (.int .i64 (F2 : Int))).cell
                have z4 := (d4.other (B' := L + 1) (by omega) (.int .i64 (dd : Int))).cell
                have k5 := (d5.other (B' := L) (by omega) (.int .i64 (F2 : Int))).frozen
                have k4 := (d4.other (B' := L + 1) (by omega) (.int .i64 (dd : Int))).frozen
                have s2 := (d2.other (B' := L) (by omega) (.int .i64 (F2 : Int))).cell
                have s3 := (d2.other (B' := L + 1) (by omega) (.int .i64 (dd : Int))).cell
                refine regionT [0, 1, 2, 3] (fun w' => w'.cell? ⟨B, 0, none⟩ = some (.int .i64 (i : Int))) (by kernel_rfl) ?_
                have hSS : (fun w' : World => w'.cell? ⟨B, 0, none⟩ = some (.int .i64 (i : Int))) W.drew := e0
                refine AnyT.take (i := 0) (v := ?_) (by decide) (by kernel_rfl) rfl (by kernel_rfl) (by kernel_rfl) (by kernel_rfl) (by kernel_rfl) (fun _ _ _ h => h) (by assumption) (by rfl) (fun _ => rfl) ?_ ?_
                rotate_left
                focus (intro w hSw; (try dsimp only at hSw); go_split_ands; go_simp; (try with_reducible rfl))
                (try simp only [Act.put, List.setIfInBounds_toArray, List.set_cons_zero, List.set_cons_succ, Array.setIfInBounds_toArray])
                refine AnyT.take (i := 1) (v := ?_) (by decide) (by kernel_rfl) rfl (by kernel_rfl) (by kernel_rfl) (by kernel_rfl) (by kernel_rfl) (fun _ _ _ h => h) (by assumption) (by rfl) (fun _ => rfl) ?_ ?_
                rotate_left
                focus (intro w hSw; (try dsimp only at hSw); go_split_ands; go_simp; (try with_reducible rfl))
                (try simp only [Act.put, List.setIfInBounds_toArray, List.set_cons_zero, List.set_cons_succ, Array.setIfInBounds_toArray])
                refine AnyT.take (i := 2) (v := ?_) (by decide) (by kernel_rfl) rfl (by kernel_rfl) (by kernel_rfl) (by kernel_rfl) (by kernel_rfl) (fun _ _ _ h => h) (by assumption) (by rfl) (fun _ => rfl) ?_ ?_
                rotate_left
                focus (intro w hSw; (try dsimp only at hSw); go_split_ands; go_simp; (try with_reducible rfl))
                (try simp only [Act.put, List.setIfInBounds_toArray, List.set_cons_zero, List.set_cons_succ, Array.setIfInBounds_toArray])
                refine AnyT.take (i := 3) (v := ?_) (by decide) (by kernel_rfl) rfl (by kernel_rfl) (by kernel_rfl) (by kernel_rfl) (by kernel_rfl) (fun _ _ _ h => h) (by assumption) (by rfl) (fun _ => rfl) ?_ ?_
                rotate_left
                focus (intro w hSw; (try dsimp only at hSw); go_split_ands; go_simp; (try with_reducible rfl))
                (try simp only [Act.put, List.setIfInBounds_toArray, List.set_cons_zero, List.set_cons_succ, Array.setIfInBounds_toArray])
                refine AnyT.only (i := 4) (by kernel_rfl) rfl (by rfl) (fun K hK => ?_)
                go_simp
                refine hK.out _ _ (fun _ => s2) ?_
                clear hK K
                refine AnyT.only (i := 5) (by kernel_rfl) rfl (by rfl) (fun K hK => ?_)
                go_simp
                refine hK.out _ _ (fun _ => i2.cell) ?_
                clear hK K
                refine AnyT.done (by kernel_rfl) ?_ _
                gi_wp2
                refine ⟨(hks.trans ((KeepsOthers.setCell _ _ _).trans (KeepsOthers.setCell _ _ _))).from _, rfl, i1, i2, i3, by rw [← HS1.out]; exact i4, by rw [← HS2.out]; exact i5, im⟩
              · have a4' : ¬ (dd : Int) ≤ 32768 := by omega
                rw [if_neg (fun h => a4 h.2)] at hs
                have z6 := h6.set (.int .i64 ((k : Int) + 1))
                have z1 := h1.setCell (p := ⟨M, 0, none⟩) (by simp; omega) (.int .i64 ((k : Int) + 1))
                have z2 := h2.other (B' := M) (by omega) (.int .i64 ((k : Int) + 1))
                have z3 := h3.other (B' := M) (by omega) (.int .i64 ((k : Int) + 1))
                have z4 := h4.other (B' := M) (by omega) (.int .i64 ((k : Int) + 1))
                have z5 := h5.other (B' := M) (by omega) (.int .i64 ((k : Int) + 1))
                have zk := HMA.out (W.setCell ⟨M, 0, none⟩ (.int .i64 ((k : Int) + 1))) (fun r ra rb rc => Below.heap_setCell _ _ _ r (by simp; omega)) hmk
                have e6 := z6.cell
                have e3' := z3.cell
                have wk1 : IntKind.i64.wrap ((k : Int) + 1) = ((k : Int) + 1) := IntWalk.i64_in _ (by omega)
                have hks : KeepsOthers W (W.setCell ⟨M, 0, none⟩ (.int .i64 ((k : Int) + 1))) := KeepsOthers.setCell _ _ _
                have hkb : KeepB (nmine (M + 1) (M + 1 + 1 + 1) X g1 g3) W (W.setCell ⟨M, 0, none⟩ (.int .i64 ((k : Int) + 1))) := fun r hr => Below.heap_setCell _ _ _ r (by simp; rcases hr with h | h | h | h | h <;> omega)
                by_cases hkw : k + 1 = walk
                · rw [if_pos hkw] at hs
                  have hs1 := congrArg Prod.fst hs
                  have hs2 := congrArg Prod.snd hs
                  dsimp only at hs1 hs2
                  have HS1 := Lib.hid hs1; clear hs1
                  have HS2 := Lib.hid hs2; clear hs2
                  have hkw3 : ((k : Int) + 1 == (walk : Int)) = true := by rw [← hkw]; simp
                  clear hs hkw
                  gi_wp2
                  refine ⟨hks.from _, rfl, z1, z2, z3, by rw [← HS1.out]; exact z4, by rw [← HS2.out]; exact z5, zk⟩
                · rw [if_neg hkw] at hs
                  have hkw3 : ((k : Int) + 1 == (walk : Int)) = false := beq_eq_false_iff_ne.2 (by omega)
                  have HSS := Lib.hid hs; clear hs hkw
                  gi_wp2
                  refine ⟨hks.from _, hkb, z1, z2, z3, z4, z5, z6, zk, HSS⟩
            · have a3' : ¬ (F1 : Int) < (i : Int) := by omega
              rw [if_neg (fun h => a3 h.1)] at hs
              have z6 := h6.set (.int .i64 ((k : Int) + 1))
              have z1 := h1.setCell (p := ⟨M, 0, none⟩) (by simp; omega) (.int .i64 ((k : Int) + 1))
              have z2 := h2.other (B' := M) (by omega) (.int .i64 ((k : Int) + 1))
              have z3 := h3.other (B' := M) (by omega) (.int .i64 ((k : Int) + 1))
              have z4 := h4.other (B' := M) (by omega) (.int .i64 ((k : Int) + 1))
              have z5 := h5.other (B' := M) (by omega) (.int .i64 ((k : Int) + 1))
              have zk := HMA.out (W.setCell ⟨M, 0, none⟩ (.int .i64 ((k : Int) + 1))) (fun r ra rb rc => Below.heap_setCell _ _ _ r (by simp; omega)) hmk
              have e6 := z6.cell
              have e3' := z3.cell
              have wk1 : IntKind.i64.wrap ((k : Int) + 1) = ((k : Int) + 1) := IntWalk.i64_in _ (by omega)
              have hks : KeepsOthers W (W.setCell ⟨M, 0, none⟩ (.int .i64 ((k : Int) + 1))) := KeepsOthers.setCell _ _ _
              have hkb : KeepB (nmine (M + 1) (M + 1 + 1 + 1) X g1 g3) W (W.setCell ⟨M, 0, none⟩ (.int .i64 ((k : Int) + 1))) := fun r hr => Below.heap_setCell _ _ _ r (by simp; rcases hr with h | h | h | h | h <;> omega)
              by_cases hkw : k + 1 = walk
              · rw [if_pos hkw] at hs
                have hs1 := congrArg Prod.fst hs
                have hs2 := congrArg Prod.snd hs
                dsimp only at hs1 hs2
                have HS1 := Lib.hid hs1; clear hs1
                have HS2 := Lib.hid hs2; clear hs2
                have hkw3 : ((k : Int) + 1 == (walk : Int)) = true := by rw [← hkw]; simp
                clear hs hkw
                gi_wp2
                refine ⟨hks.from _, rfl, z1, z2, z3, by rw [← HS1.out]; exact z4, by rw [← HS2.out]; exact z5, zk⟩
              · rw [if_neg hkw] at hs
                have hkw3 : ((k : Int) + 1 == (walk : Int)) = false := beq_eq_false_iff_ne.2 (by omega)
                have HSS := Lib.hid hs; clear hs hkw
                gi_wp2
                refine ⟨hks.from _, hkb, z1, z2, z3, z4, z5, z6, zk, HSS⟩
      case doneB =>
        rintro D2 W hD2 ⟨h1, h2, h3, h4, h5, _, hmk, hsc⟩ hK2
        have hs := hsc.out
        rw [Nat.sub_self, scan] at hs
        replace h4 : Boxed W L 3 (.int .i64 (T1 : Int)) := by rw [← show R1 = T1 from congrArg Prod.fst hs]; exact h4
        replace h5 : Boxed W (L + 1) 3 (.int .i64 (T2 : Int)) := by rw [← show R2 = T2 from congrArg Prod.snd hs]; exact h5
        clear hs hsc
        clear v0 v1 v2 v3 hb5 q0 q1 y1 y2 c5 hX5 hseq u1 u2 t0' t1' c4 HAB HMK5 HMA ix1
        gi_wp2
        rw [roundsIn_succ]
        gi_wp2
        have e4 := h4.cell
        have e5 := h5.cell
        (try simp only [List.append])
        refine wpIn_region_quiet_lit rfl (by kernel_rfl) (by kernel_rfl) ?_
        repeat (gi_big_quiet_step (fail))
        refine wpQuietIn_nil ?_
        intro _ hw'
        obtain ⟨nq, hw''⟩ := hw'
        subst hw''
        have hmn : (if (258 : Int) < (T1 : Int) then (258 : Int) else (T1 : Int)) = ((min T1 258 : Nat) : Int) := by split <;> omega
        have m1 : (W.drewN nq).heap[D2]? = some (Obj.deferred (some [])) := hK2
        have hDD : D ≠ D2 := by have := S5.out; omega
        have m2 : ((W.drewN nq).putObj D2 (.deferred none)).heap[D]? = some (Obj.deferred (some [])) := (World.putObj_heap_other hDD).trans hmk
        have bel1 := (bDraws h1 nq).trans (belowK_b (n₀ := B) (w := w) (by omega) (W.drewN nq) D2 _ (.deferred none) (by omega) m1 rfl rfl)
        have bel2 := bel1.trans (belowK_b (n₀ := B) (w := w) (by omega) _ D _ (.deferred none) (by omega) m2 rfl rfl)
        have BEL := Lib.hid bel2; clear bel1 bel2 e4 e5
        rcases Nat.lt_or_ge 258 T1 with hT | hT
        · have hT' : (258 : Int) < (T1 : Int) := by omega
          have hme : ((min T1 258 : Nat) : Int) = 258 := by omega
          clear hmn
          gi_wp2
          refine ⟨by simp, .inl ⟨_, _, rfl, run_takeDeferred m1, ?_⟩⟩
          refine ⟨by simp, .inl ⟨_, _, rfl, run_takeDeferred m2, ?_⟩⟩
          refine ⟨_, results_tmp2 rfl _ _ _, by rw [HRS.out]; dsimp only; rw [hme]; rfl, by first | exact BEL.out | (rw [hB]; exact BEL.out)⟩
        · have hT' : ¬ (258 : Int) < (T1 : Int) := by omega
          have hme : ((min T1 258 : Nat) : Int) = (T1 : Int) := by omega
          clear hmn
          gi_wp2
          refine ⟨by simp, .inl ⟨_, _, rfl, run_takeDeferred m1, ?_⟩⟩
          refine ⟨by simp, .inl ⟨_, _, rfl, run_takeDeferred m2, ?_⟩⟩
          refine ⟨_, results_tmp2 rfl _ _ _, by rw [HRS.out]; dsimp only; rw [hme]; rfl, by first | exact BEL.out | (rw [hB]; exact BEL.out)⟩
      case stopB =>
        rintro D2 c k W hD2 hk ⟨rfl, h1, h2, h3, h4, h5, hmk⟩ hK2
        clear v0 v1 v2 v3 hb5 q0 q1 y1 y2 c5 hX5 hseq u1 u2 t0' t1' c4 HAB HMK5 HMA ix1
        gi_wp2
        rw [roundsIn_succ]
        gi_wp2
        have e4 := h4.cell
        have e5 := h5.cell
        (try simp only [List.append])
        refine wpIn_region_quiet_lit rfl (by kernel_rfl) (by kernel_rfl) ?_
        repeat (gi_big_quiet_step (fail))
        refine wpQuietIn_nil ?_
        intro _ hw'
        obtain ⟨nq, hw''⟩ := hw'
        subst hw''
        have hmn : (if (258 : Int) < (T1 : Int) then (258 : Int) else (T1 : Int)) = ((min T1 258 : Nat) : Int) := by split <;> omega
        have m1 : (W.drewN nq).heap[D2]? = some (Obj.deferred (some [])) := hK2
        have hDD : D ≠ D2 := by have := S5.out; omega
        have m2 : ((W.drewN nq).putObj D2 (.deferred none)).heap[D]? = some (Obj.deferred (some [])) := (World.putObj_heap_other hDD).trans hmk
        have bel1 := (bDraws h1 nq).trans (belowK_b (n₀ := B) (w := w) (by omega) (W.drewN nq) D2 _ (.deferred none) (by omega) m1 rfl rfl)
        have bel2 := bel1.trans (belowK_b (n₀ := B) (w := w) (by omega) _ D _ (.deferred none) (by omega) m2 rfl rfl)
        have BEL := Lib.hid bel2; clear bel1 bel2 e4 e5
        rcases Nat.lt_or_ge 258 T1 with hT | hT
        · have hT' : (258 : Int) < (T1 : Int) := by omega
          have hme : ((min T1 258 : Nat) : Int) = 258 := by omega
          clear hmn
          gi_wp2
          refine ⟨by simp, .inl ⟨_, _, rfl, run_takeDeferred m1, ?_⟩⟩
          refine ⟨by simp, .inl ⟨_, _, rfl, run_takeDeferred m2, ?_⟩⟩
          refine ⟨_, results_tmp2 rfl _ _ _, by rw [HRS.out]; dsimp only; rw [hme]; rfl, by first | exact BEL.out | (rw [hB]; exact BEL.out)⟩
        · have hT' : ¬ (258 : Int) < (T1 : Int) := by omega
          have hme : ((min T1 258 : Nat) : Int) = (T1 : Int) := by omega
          clear hmn
          gi_wp2
          refine ⟨by simp, .inl ⟨_, _, rfl, run_takeDeferred m1, ?_⟩⟩
          refine ⟨by simp, .inl ⟨_, _, rfl, run_takeDeferred m2, ?_⟩⟩
          refine ⟨_, results_tmp2 rfl _ _ _, by rw [HRS.out]; dsimp only; rw [hme]; rfl, by first | exact BEL.out | (rw [hB]; exact BEL.out)⟩
end Go.Proofs.Ytnlemaaglbbdnaa
