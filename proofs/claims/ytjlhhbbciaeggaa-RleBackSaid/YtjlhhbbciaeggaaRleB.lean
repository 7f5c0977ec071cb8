/- rle.pieces: the iterator; bytes.Clone. -/
import Derived.Test.YtjlhhbbciaeggaaRleC
import Derived.Test.YtjlhhbbciaeggaaRep
import Derived.Test.YtjlhhbbciaeggaaRegL
import Derived.Sort.BigQuietIn
namespace Go.Proofs.Ytjlhhbbciaeggaa
set_option linter.unusedSimpArgs false
set_option linter.unusedVariables false
open Go.RowKit Go.Shelf
attribute [local go_sem] Oper.semAt_some

/-- Clone of a slice that is not nil -/
theorem clone_law (w : World) (a : Addr) (n cap : Nat) (b : List UInt8) (hb : Rd w 1 (some a) n cap (B8 b)) (hn : n ≤ 100000) :
    Calls Try.prog 15 #[.slice (some a) n cap] w fun e w' => ∃ ad c, e = .returned (.slice ad n c) ∧ Own w' 5 1 w.heap.size ad n c (B8 b) ∧ Below w.heap.size w w' ∧ w.heap.size < w'.heap.size := by
  have q22 : ∀ (w : World) (a : Option Addr) (n c n' c' : Nat), (binOp .eql 22 (.slice a n c) (.slice none n' c')).run Try.prog w = .ok (.bool a.isNone) w := fun w a n c n' c' => Lib.run_eql_slice_nil w _ _ a n c n' c' Try.underlying22
  go_enter Try.func15, Try.ntmps15
  go_wp2_with (refine wpList_clone rfl _ _ _ rfl elB rfl rfl hb (by unfold maxLen; omega) (by omega) ?_; intro ac cc w1 hc hb1 hs1)
  go_ret
  exact ⟨ac, cc, rfl, hc, hb1, hs1⟩

/-- the k-th piece -/
def pcE (ad : Option Addr) (b : List UInt8) (k : Nat) : Array Value := #[.slice (some (sAt ad (offP b k))) (runN (b.drop (offP b k))) (runN (b.drop (offP b k)))]
def boxLen (Bx : Nat) (W : World) : Nat := match W.cell? ⟨Bx, 0, none⟩ with | some (.slice _ n _) => n | _ => 0

set_option maxRecDepth 100000 in
set_option maxHeartbeats 4000000 in
theorem pieces1_in (mm l Bx : Nat) (hm : 1 ≤ mm) (ad : Option Addr) (n cap : Nat) (b : List UInt8) (hn : n ≤ 100000) (hl : b.length = n) (hne : 0 < n → ∀ a, ad = some a → a.block ≠ Bx)
    (J Jx : Nat → World → Prop) (hJ : AbW (fun r => r = Bx) J)
    (hY : ∀ k W1, J k W1 → k < (pcs b).length → YieldAt Fence.wide (mm - 1) Try.prog l (pcE ad b k) W1 fun e W' =>
      (e = .returned (.bool true) ∧ J (k + 1) W' ∧ KeepB (fun r => r = Bx ∨ (0 < n ∧ ∃ a, ad = some a ∧ r = a.block)) W1 W') ∨ (e = .returned (.bool false) ∧ Jx (k + 1) W'))
    (W : World) (hB : Boxed W Bx 22 (.slice ad n cap)) (hb : Rd W 1 ad n cap (B8 b)) (h0 : J 0 W) :
    CallsIn Fence.wide mm Try.prog 21 #[.func (.yield l) #[] #[], .pointer (some ⟨Bx, 0, none⟩)] W fun e W' => (∃ v, e = .returned v) ∧
      (J (pcs b).length W' ∨ ∃ k, k ≤ (pcs b).length ∧ Jx k W') := by
  refine callsIn_of_wp Try.func21 rfl trivial ?_ rfl
  simp only [Try.ntmps21, List.size_toArray, List.length_cons, List.length_nil, Nat.reduceAdd, Nat.reduceSub, Array.replicate_succ, Array.replicate_zero, List.push_toArray, List.append_toArray, List.nil_append, List.cons_append]
  gi_wp2
  gi_loopw [3] (fun _ wr => ∃ (k : Nat) (ax : Option Addr) (cx : Nat), k ≤ (pcs b).length ∧ J k wr ∧ Boxed wr Bx 22 (.slice ax (n - offP b k) cx) ∧ Rd wr 1 ad n cap (B8 b) ∧ (offP b k < n → ax = some (sAt ad (offP b k)) ∧ cx = cap - offP b k)) (fun _ wr => boxLen Bx wr)
  case atStart => exact ⟨0, ad, cap, Nat.zero_le _, h0, by rw [offP_zero]; exact hB, hb, fun h => by rw [offP_zero] at h ⊢; obtain ⟨a, rfl⟩ := Option.ne_none_iff_exists'.1 (hb.ne h); simp [sAt, Addr.add]⟩
  case round =>
    clear hB hb h0
    obtain ⟨k, ax, cx, hk0, hJs, x0, x1, hax⟩ := hrel
    rename World => wr
    have hbl : boxLen Bx wr = n - offP b k := by rw [boxLen, x0.cell]
    rw [hbl]
    clear hbl
    by_cases hk : k < (pcs b).length
    · have hof := (pcs_get b k hk).1
      have hsuc := offP_succ b k hk
      rw [hl] at hof
      obtain ⟨rfl, rfl⟩ := hax hof
      have hcn := x1.ncap
      have x2 : Rd wr 1 (some (sAt ad (offP b k))) (n - offP b k) (cap - offP b k) (B8 (b.drop (offP b k))) := by
        have := x1.from8 (offP b k) (Nat.le_of_lt hof)
        obtain ⟨a, rfl⟩ := Option.ne_none_iff_exists'.1 (x1.ne (by omega))
        rwa [cutA, if_neg (by omega)] at this
      obtain ⟨off, hoff⟩ : ∃ off, offP b k = off := ⟨_, rfl⟩
      rw [hoff] at x0 x2 hof hsuc ⊢
      obtain ⟨bb, hbb⟩ : ∃ bb, b.drop off = bb := ⟨_, rfl⟩
      have hbl : bb.length = n - off := by rw [← hbb, List.length_drop, hl]
      rw [hbb] at x2 hsuc
      obtain ⟨x, hx⟩ : ∃ x, sAt ad off = x := ⟨_, rfl⟩
      rw [hx] at x0 x2
      obtain ⟨m, hm2⟩ : ∃ m, n - off = m := ⟨_, rfl⟩
      obtain ⟨c, hc2⟩ : ∃ c, cap - off = c := ⟨_, rfl⟩
      rw [hm2] at x0 x2 hbl ⊢
      rw [hc2] at x0 x2
      have hm0 : 0 < m := by omega
      have hr1 := runN_pos (b := bb) (by omega)
      obtain ⟨hr2, hr3⟩ := runN_le bb
      rw [hbl] at hr3
      have cB := x0.cell
      have HX := Lib.hid hx; clear hx
      have HBB : Hid (b.drop (offP b k) = bb) := Lib.hid (by rw [hoff]; exact hbb)
      have HOFF := Lib.hid hoff; clear hoff hbb
      have HSUC := Lib.hid hsuc; clear hsuc hax
      have HBL := Lib.hid hbl; clear hbl
      gi_wp2
      clear cB
      gi_loopw [3] (fun v wq => ∃ p : Nat, v = .int .i64 (p : Int) ∧ 1 ≤ p ∧ p ≤ runN bb ∧ J k wq ∧ Boxed wq Bx 22 (.slice (some x) m c) ∧ Rd wq 1 ad n cap (B8 b) ∧ Rd wq 1 (some x) m c (B8 bb)) (fun v _ => 256 - (intOf v).toNat)
      case atStart => exact ⟨1, rfl, Nat.le_refl _, hr1, hJs, x0, x1, x2⟩
      case round =>
        clear hJs x0 x1 x2
        obtain ⟨p, rfl, hp1, hp2, hJq, x0, x1, x2⟩ := hrel
        rename World => wq
        have hstep := runN_step bb p hp1 hp2
        rw [HBL.out] at hstep
        have cB := x0.cell
        by_cases h1 : p < m
        · have t1 : decide ((p : Int) < (m : Int)) = true := deT (by omega)
          by_cases h2 : p < 255
          · have t2 : decide ((p : Int) < 255) = true := deT (by omega)
            obtain ⟨n1, c1⟩ := x2.get8 h1
            obtain ⟨_, c0⟩ := x2.get8 hm0
            obtain ⟨u, hu⟩ : ∃ v, (at8 bb p).toNat = v := ⟨_, rfl⟩
            obtain ⟨v, hv⟩ : ∃ v, (at8 bb 0).toNat = v := ⟨_, rfl⟩
            rw [hu, sAt_some] at c1; rw [hv, sAt_some, add_zero] at c0
            have hpm : (p : Int) < (m : Int) := by omega
            by_cases huv : u = v
            · have t3 : ((u : Int) == (v : Int)) = true := by rw [huv]; simp
              have hlt := hstep.2 ⟨h1, h2, UInt8.toNat_inj.1 (by rw [hu, hv, huv])⟩
              clear hstep hu hv huv
              gi_wp2
              (try simp only [List.append])
              refine wpIn_region_quiet_lit rfl (by kernel_rfl) (by kernel_rfl) ?_
              repeat (gi_big_quiet_step (fail))
              refine wpQuietIn_nil ?_
              intro _ hw'
              obtain ⟨nq, hw''⟩ := hw'
              subst hw''
              have hD := hJ k _ _ none hJq (grown_draws _ nq none) (fun r e => by cases e)
              replace x0 : Boxed (wq.drewN nq) Bx 22 (.slice (some x) m c) := x0
              replace x1 := rdDraws x1 nq
              replace x2 := rdDraws x2 nq
              gi_wp2
              go_roundw
              case rel => exact ⟨p + 1, by simp, by omega, hlt, hD, x0, x1, x2⟩
              case measure => simp [intOf]; omega
            · have t3 : ((u : Int) == (v : Int)) = false := by rw [beq_eq_false_iff_ne]; omega
              have hnl : ¬ p < runN bb := fun h => huv (by rw [← hu, ← hv, (hstep.1 h).2.2])
              clear hstep hu hv huv
              gi_wp2
              (try simp only [List.append])
              refine wpIn_region_quiet_lit rfl (by kernel_rfl) (by kernel_rfl) ?_
              repeat (gi_big_quiet_step (fail))
              refine wpQuietIn_nil ?_
              intro _ hw'
              obtain ⟨nq, hw''⟩ := hw'
              subst hw''
              have hD := hJ k _ _ none hJq (grown_draws _ nq none) (fun r e => by cases e)
              replace x0 : Boxed (wq.drewN nq) Bx 22 (.slice (some x) m c) := x0
              replace x1 := rdDraws x1 nq
              replace x2 := rdDraws x2 nq
              obtain rfl : p = runN bb := by have := hnl; omega
              obtain ⟨fn, tmps, assign, body, hy, hR⟩ := hY k _ hD hk
              dsimp only [pcE] at hy
              rw [HBB.out, HOFF.out, HX.out] at hy
              have cB := x0.cell
              have hcm := x2.ncap
              obtain ⟨r, hr⟩ : ∃ r, runN bb = r := ⟨_, rfl⟩
              rw [hr] at hy hr1 hr2 hr3 HSUC
              have sl : ∀ W, (Instr.slice 22 (.slice (some x) m c) (some (.int .i64 (r : Int))) none none).run Try.prog W = .ok (.slice (cutA (some x) r c) (m - r) (c - r)) W := fun W => run_cut (P := Try.prog) elB.und (by kernel_rfl) x2 r hr3 W
              have HR := Lib.hid hr
              rw [hr]
              clear hr
              gi_wp2
              refine hR.mono ?_
              rintro e W3 (⟨rfl, hJ3, hk3⟩ | ⟨rfl, hJx3⟩)
              · have y0 : Boxed W3 Bx 22 (.slice (some x) m c) := (hk3 Bx (.inl rfl)).trans x0
                have y1 := x1.keep (w' := W3) fun a ha => hk3 a.block (.inr ⟨by omega, a, ha, rfl⟩)
                have cB3 := y0.cell
                have fB3 := y0.frozen
                have z0 : Boxed (W3.setCell ⟨Bx, 0, .none⟩ (.slice (cutA (some x) r c) (m - r) (c - r))) Bx 22 (.slice (cutA (some x) r c) (m - r) (c - r)) := y0.set _
                have z1 := y1.setOther ⟨Bx, 0, .none⟩ (.slice (cutA (some x) r c) (m - r) (c - r)) fun a ha => hne (by omega) a ha
                have zJ : J (k + 1) (W3.setCell ⟨Bx, 0, .none⟩ (.slice (cutA (some x) r c) (m - r) (c - r))) := hJ _ _ _ _ hJ3 (grownBy_setCell' W3 Bx _) (fun r e => by cases e; rfl)
                have Z0 := Lib.hid z0; clear z0
                have Z1 := Lib.hid z1; clear z1
                have ZJ := Lib.hid zJ; clear zJ
                clear hJq hD hJ3 hk3 x0 x1 x2 y0 y1
                gi_wp2
                go_roundw
                case rel => exact ⟨k + 1, _, _, hk, ZJ.out, by rw [HSUC.out, show n - (off + r) = m - r by omega]; exact Z0.out, Z1.out, fun h => by
                  rw [HSUC.out] at h ⊢
                  refine ⟨?_, by omega⟩
                  rw [cutA, if_neg (by omega), ← HX.out]
                  simp [sAt, Addr.add_add]⟩
                case measure => rw [boxLen, Z0.out.cell]; show m - r < m; omega
              · gi_wp2
                refine bodyPost_ret (results_none rfl _ _ _) rfl ?_
                exact ⟨⟨_, rfl⟩, .inr ⟨_, by omega, hJx3⟩⟩
          · have t2 : decide ((p : Int) < 255) = false := deF (by omega)
            have hnl : ¬ p < runN bb := fun h => h2 (hstep.1 h).2.1
            clear hstep
            gi_wp2
            (try simp only [List.append])
            refine wpIn_region_quiet_lit rfl (by kernel_rfl) (by kernel_rfl) ?_
            repeat (gi_big_quiet_step (fail))
            refine wpQuietIn_nil ?_
            intro _ hw'
            obtain ⟨nq, hw''⟩ := hw'
            subst hw''
            have hD := hJ k _ _ none hJq (grown_draws _ nq none) (fun r e => by cases e)
            replace x0 : Boxed (wq.drewN nq) Bx 22 (.slice (some x) m c) := x0
            replace x1 := rdDraws x1 nq
            replace x2 := rdDraws x2 nq
            obtain rfl : p = runN bb := by have := hnl; omega
            obtain ⟨fn, tmps, assign, body, hy, hR⟩ := hY k _ hD hk
            dsimp only [pcE] at hy
            rw [HBB.out, HOFF.out, HX.out] at hy
            have cB := x0.cell
            have hcm := x2.ncap
            obtain ⟨r, hr⟩ : ∃ r, runN bb = r := ⟨_, rfl⟩
            rw [hr] at hy hr1 hr2 hr3 HSUC
            have sl : ∀ W, (Instr.slice 22 (.slice (some x) m c) (some (.int .i64 (r : Int))) none none).run Try.prog W = .ok (.slice (cutA (some x) r c) (m - r) (c - r)) W := fun W => run_cut (P := Try.prog) elB.und (by kernel_rfl) x2 r hr3 W
            have HR := Lib.hid hr
            rw [hr]
            clear hr
            gi_wp2
            refine hR.mono ?_
            rintro e W3 (⟨rfl, hJ3, hk3⟩ | ⟨rfl, hJx3⟩)
            · have y0 : Boxed W3 Bx 22 (.slice (some x) m c) := (hk3 Bx (.inl rfl)).trans x0
              have y1 := x1.keep (w' := W3) fun a ha => hk3 a.block (.inr ⟨by omega, a, ha, rfl⟩)
              have cB3 := y0.cell
              have fB3 := y0.frozen
              have z0 : Boxed (W3.setCell ⟨Bx, 0, .none⟩ (.slice (cutA (some x) r c) (m - r) (c - r))) Bx 22 (.slice (cutA (some x) r c) (m - r) (c - r)) := y0.set _
              have z1 := y1.setOther ⟨Bx, 0, .none⟩ (.slice (cutA (some x) r c) (m - r) (c - r)) fun a ha => hne (by omega) a ha
              have zJ : J (k + 1) (W3.setCell ⟨Bx, 0, .none⟩ (.slice (cutA (some x) r c) (m - r) (c - r))) := hJ _ _ _ _ hJ3 (grownBy_setCell' W3 Bx _) (fun r e => by cases e; rfl)
              have Z0 := Lib.hid z0; clear z0
              have Z1 := Lib.hid z1; clear z1
              have ZJ := Lib.hid zJ; clear zJ
              clear hJq hD hJ3 hk3 x0 x1 x2 y0 y1
              gi_wp2
              go_roundw
              case rel => exact ⟨k + 1, _, _, hk, ZJ.out, by rw [HSUC.out, show n - (off + r) = m - r by omega]; exact Z0.out, Z1.out, fun h => by
                rw [HSUC.out] at h ⊢
                refine ⟨?_, by omega⟩
                rw [cutA, if_neg (by omega), ← HX.out]
                simp [sAt, Addr.add_add]⟩
              case measure => rw [boxLen, Z0.out.cell]; show m - r < m; omega
            · gi_wp2
              refine bodyPost_ret (results_none rfl _ _ _) rfl ?_
              exact ⟨⟨_, rfl⟩, .inr ⟨_, by omega, hJx3⟩⟩
        · have t1 : decide ((p : Int) < (m : Int)) = false := deF (by omega)
          have hnl : ¬ p < runN bb := fun h => h1 (hstep.1 h).1
          clear hstep
          gi_wp2
          (try simp only [List.append])
          refine wpIn_region_quiet_lit rfl (by kernel_rfl) (by kernel_rfl) ?_
          repeat (gi_big_quiet_step (fail))
          refine wpQuietIn_nil ?_
          intro _ hw'
          obtain ⟨nq, hw''⟩ := hw'
          subst hw''
          have hD := hJ k _ _ none hJq (grown_draws _ nq none) (fun r e => by cases e)
          replace x0 : Boxed (wq.drewN nq) Bx 22 (.slice (some x) m c) := x0
          replace x1 := rdDraws x1 nq
          replace x2 := rdDraws x2 nq
          obtain rfl : p = runN bb := by have := hnl; omega
          obtain ⟨fn, tmps, assign, body, hy, hR⟩ := hY k _ hD hk
          dsimp only [pcE] at hy
          rw [HBB.out, HOFF.out, HX.out] at hy
          have cB := x0.cell
          have hcm := x2.ncap
          obtain ⟨r, hr⟩ : ∃ r, runN bb = r := ⟨_, rfl⟩
          rw [hr] at hy hr1 hr2 hr3 HSUC
          have sl : ∀ W, (Instr.slice 22 (.slice (some x) m c) (some (.int .i64 (r : Int))) none none).run Try.prog W = .ok (.slice (cutA (some x) r c) (m - r) (c - r)) W := fun W => run_cut (P := Try.prog) elB.und (by kernel_rfl) x2 r hr3 W
          have HR := Lib.hid hr
          rw [hr]
          clear hr
          gi_wp2
          refine hR.mono ?_
          rintro e W3 (⟨rfl, hJ3, hk3⟩ | ⟨rfl, hJx3⟩)
          · have y0 : Boxed W3 Bx 22 (.slice (some x) m c) := (hk3 Bx (.inl rfl)).trans x0
            have y1 := x1.keep (w' := W3) fun a ha => hk3 a.block (.inr ⟨by omega, a, ha, rfl⟩)
            have cB3 := y0.cell
            have fB3 := y0.frozen
            have z0 : Boxed (W3.setCell ⟨Bx, 0, .none⟩ (.slice (cutA (some x) r c) (m - r) (c - r))) Bx 22 (.slice (cutA (some x) r c) (m - r) (c - r)) := y0.set _
            have z1 := y1.setOther ⟨Bx, 0, .none⟩ (.slice (cutA (some x) r c) (m - r) (c - r)) fun a ha => hne (by omega) a ha
            have zJ : J (k + 1) (W3.setCell ⟨Bx, 0, .none⟩ (.slice (cutA (some x) r c) (m - r) (c - r))) := hJ _ _ _ _ hJ3 (grownBy_setCell' W3 Bx _) (fun r e => by cases e; rfl)
            have Z0 := Lib.hid z0; clear z0
            have Z1 := Lib.hid z1; clear z1
            have ZJ := Lib.hid zJ; clear zJ
            clear hJq hD hJ3 hk3 x0 x1 x2 y0 y1
            gi_wp2
            go_roundw
            case rel => exact ⟨k + 1, _, _, hk, ZJ.out, by rw [HSUC.out, show n - (off + r) = m - r by omega]; exact Z0.out, Z1.out, fun h => by
              rw [HSUC.out] at h ⊢
              refine ⟨?_, by omega⟩
              rw [cutA, if_neg (by omega), ← HX.out]
              simp [sAt, Addr.add_add]⟩
            case measure => rw [boxLen, Z0.out.cell]; show m - r < m; omega
          · gi_wp2
            refine bodyPost_ret (results_none rfl _ _ _) rfl ?_
            exact ⟨⟨_, rfl⟩, .inr ⟨_, by omega, hJx3⟩⟩
    · obtain rfl : k = (pcs b).length := by omega
      rw [offP_all, hl, Nat.sub_self] at x0
      have cB := x0.cell
      gi_wp2
      go_end0
      exact ⟨⟨_, rfl⟩, .inl hJs⟩
end Go.Proofs.Ytjlhhbbciaeggaa
