/- The law RotateSame, walked. -/
import Derived.Test.YtjjdckbdjmbndaaRotD
import Derived.Test.YtjjdckbdjmbndaaRotN
import Derived.Test.YtjjdckbdjmbndaaRegD
import Derived.Maps.OwnIn
import Derived.Maps.Views
namespace Go.Proofs.Ytjjdckbdjmbndaa
set_option linter.unusedSimpArgs false
set_option linter.unusedVariables false
open Go.RowKit
attribute [local go_sem] Oper.semAt_some

section maps
open Go.Maps Go.WideMaps
theorem strK : Keyed Try.prog 9 := string_keyed Try.underlying9
theorem zeroI (w : World) : (zeroValue 3).run Try.prog w = .ok (.int .i64 0) w := by kernel_rfl
theorem keyT (T : List UInt8) (h : T.length ≤ 1000000) : keyOf Try.prog 9 (.string (bstr T)) = some (.string T) := by
  have hs : (bstr T).size ≤ maxLen := by rw [bstr_size]; unfold maxLen; omega
  rw [keyOf_string_mk Try.underlying9 hs]
  simp [bstr]
/-- the map that reads as f -/
def Tells (D : DataW Unit) (f : List UInt8 → Int) : Prop := Maps.IsMap D ∧ ∀ T, D.atKey (.string T) (.lit (.int .i64 0)) = .lit (.int .i64 (f T))
theorem Tells.put {D : DataW Unit} {f g : List UInt8 → Int} (h : Tells D f) (K : List UInt8) (c : Int) (hg : ∀ T, g T = if T = K then c else f T) : Tells (D.put (.string K) (.lit (.int .i64 c))) g := by
  refine ⟨h.1.put _ _, fun T => ?_⟩
  rw [hg]
  by_cases e : T = K
  · subst e; rw [if_pos rfl]; exact Maps.atKey_put_same h.1 (by simp [WideAt.IsKeyLit]) _ _
  · rw [if_neg e, Maps.atKey_put_other (by simpa using e)]; exact h.2 T
def Holds (w : World) (M m : Nat) (f : List UInt8 → Int) : Prop := ∃ D : DataW Unit, w.ownsMap Try.prog 9 (plainElem Try.prog 3) M m D ∧ Tells D f
theorem Holds.made (w : World) : Holds (w.alloc (.map #[] 0)) w.heap.size 0 (fun _ => 0) := ⟨.map [], World.ownsMap_made _ _ _ _, ⟨[], rfl⟩, fun T => rfl⟩
theorem Holds.below {w w' : World} {M m : Nat} {f : List UInt8 → Int} (h : Holds w M m f) (hb : Below w.heap.size w w') : Holds w' M m f := by
  obtain ⟨D, ho, hd⟩ := h
  have hlt := ho.lt
  obtain ⟨es, clock, hb', F, hs, hD⟩ := ho
  exact ⟨D, ⟨es, clock, (hb.block M hlt).trans hb', F, hs, hD⟩, hd⟩
theorem Holds.look {w : World} {M m : Nat} {f : List UInt8 → Int} (h : Holds w M m f) (T : List UInt8) (hT : T.length ≤ 1000000) : (Instr.lookup 32 (.map (some M)) (.string (bstr T)) false).run Try.prog w = .ok (.int .i64 (f T)) w := by
  obtain ⟨D, ho, hd⟩ := h
  obtain ⟨c, hr, hc, _⟩ := ho.lookup_int strK Try.underlying32 Try.underlying3 (zeroI w) (keyT T hT)
  rw [hd.2] at hc
  rw [hr]
  simp at hc
  rw [hc]
theorem Holds.store {w : World} {M m : Nat} {f g : List UInt8 → Int} (h : Holds w M m f) (hm : m < 1000000) (T : List UInt8) (hT : T.length ≤ 1000000) (c : Int) (hc : -1000000 ≤ c ∧ c ≤ 1000000) (hg : ∀ U, g U = if U = T then c else f U) :
    ∃ w', (Instr.mapUpdate 32 (.map (some M)) (.string (bstr T)) (.int .i64 c)).run Try.prog w = .ok () w' ∧ Holds w' M (m + 1) g ∧ w.grownBy w' (some M) := by
  obtain ⟨D, ho, hd⟩ := h
  obtain ⟨w', hr, ho', hg'⟩ := ho.update strK Try.underlying32 (by unfold maxLen; omega) (keyT T hT) (plainElem_int (H := Unit) Try.underlying3 (a := c) (by have h1 : IntKind.i64.min = -9223372036854775808 := rfl; have h2 : IntKind.i64.max = 9223372036854775807 := rfl; simp [Lit.wf, h1, h2]; omega))
  exact ⟨w', hr, ⟨_, ho', hd.put T c hg⟩, hg'⟩
end maps

set_option maxRecDepth 100000 in
set_option maxHeartbeats 4000000 in
theorem rotateSame_law (w : World) (ad : Option Addr) (n cap : Nat) (b : List UInt8) (hb : Rd w 1 ad n cap (B8 b)) (by0 : Nat) (hby : by0 < 65536) :
    Calls Try.prog 6 #[.slice ad n cap, .int .u16 (by0 : Int)] w fun e w' => e = .returned (.bool true) ∧ Below w.heap.size w w' := by
  have hl := hb.len8
  have HL := Lib.hid hl; clear hl
  by_cases hn : 60 < n
  · go_enter Try.func6, Try.ntmps6
    go_wp2_with fail
    refine (turns_any _).mono ?_
    rintro e w8 ⟨rfl, b8⟩
    go_wp2
    go_ret
    exact ⟨rfl, b8⟩
  by_cases hz : n = 0
  · subst hz
    go_enter Try.func6, Try.ntmps6
    go_wp2_with fail
    refine (turns_any _).mono ?_
    rintro e w8 ⟨rfl, b8⟩
    go_wp2
    go_ret
    exact ⟨rfl, b8⟩
  refine (callsIn_wide (n := 9)).1 ?_
  refine callsIn_of_wp Try.func6 rfl trivial ?_ rfl
  simp only [Try.ntmps6, List.size_toArray, List.length_cons, List.length_nil, Nat.reduceAdd, Nat.reduceSub, Array.replicate_succ, Array.replicate_zero, List.push_toArray, List.append_toArray, List.nil_append, List.cons_append]
  obtain ⟨k, hk⟩ : ∃ k, by0 % n = k := ⟨_, rfl⟩
  have hkn : k < n := by rw [← hk]; exact Nat.mod_lt _ (by omega)
  have hmod : (by0 : Int).tmod (n : Int) = (k : Int) := by rw [← hk]; rfl
  have hw0 : IntKind.i64.wrap (by0 : Int) = (by0 : Int) := IntWalk.i64_in _ (by omega)
  have hw1 : IntKind.i64.wrap (k : Int) = (k : Int) := IntWalk.i64_in _ (by omega)
  clear hk
  have hn1 : ¬ (60 : Int) < (n : Int) := by omega
  have hn2 : ((n : Int) == 0) = false := by simp; omega
  have hkc : (k : Int) ≤ (cap : Int) := by have := hb.ncap; omega
  have hcut := fun W => run_cut (P := Try.prog) Try.underlying22 size8 hb k (by omega) W
  gi_wp2_with fail
  refine regionT [1, 2, 3, 5, 6, 7] (fun _ => True) (by kernel_rfl) ?_
  have hSS : (fun w' : World => True) w.drew := trivial
  refine AnyT.takeD 32 (i := 1) (v := ?_) (by decide) (by kernel_rfl) rfl rfl (by kernel_rfl) (by kernel_rfl) (by kernel_rfl) (by kernel_rfl) (fun _ _ _ h => h) (by assumption) (by rfl) (fun _ => rfl) ?_ ?_
  rotate_left
  focus (intro w hSw; (try dsimp only at hSw); go_split_ands; go_simp; (try with_reducible rfl))
  simp only [List.setIfInBounds_toArray, List.set_cons_zero, List.set_cons_succ]
  refine AnyT.takeD 33 (i := 2) (v := ?_) (by decide) (by kernel_rfl) rfl rfl (by kernel_rfl) (by kernel_rfl) (by kernel_rfl) (by kernel_rfl) (fun _ _ _ h => h) (by assumption) (by rfl) (fun _ => rfl) ?_ ?_
  rotate_left
  focus (intro w hSw; (try dsimp only at hSw); go_split_ands; go_simp; (try with_reducible rfl))
  simp only [List.setIfInBounds_toArray, List.set_cons_zero, List.set_cons_succ]
  refine AnyT.takeD 34 (i := 3) (v := ?_) (by decide) (by kernel_rfl) rfl rfl (by kernel_rfl) (by kernel_rfl) (by kernel_rfl) (by kernel_rfl) (fun _ _ _ h => h) (by assumption) (by rfl) (fun _ => rfl) ?_ ?_
  rotate_left
  focus (intro w hSw; (try dsimp only at hSw); go_split_ands; go_simp; (try with_reducible rfl))
  simp only [List.setIfInBounds_toArray, List.set_cons_zero, List.set_cons_succ]
  refine AnyT.takeD 36 (i := 5) (v := ?_) (by decide) (by kernel_rfl) rfl rfl (by kernel_rfl) (by kernel_rfl) (by kernel_rfl) (by kernel_rfl) (fun _ _ _ h => h) (by assumption) (by rfl) (fun _ => rfl) ?_ ?_
  rotate_left
  focus (intro w hSw; (try dsimp only at hSw); go_split_ands; go_simp; (try with_reducible rfl))
  simp only [List.setIfInBounds_toArray, List.set_cons_zero, List.set_cons_succ]
  refine AnyT.takeD 37 (i := 6) (v := ?_) (by decide) (by kernel_rfl) rfl rfl (by kernel_rfl) (by kernel_rfl) (by kernel_rfl) (by kernel_rfl) (fun _ _ _ h => h) (by assumption) (by rfl) (fun _ => rfl) ?_ ?_
  rotate_left
  focus (intro w hSw; (try dsimp only at hSw); go_split_ands; go_simp; (try with_reducible rfl))
  simp only [List.setIfInBounds_toArray, List.set_cons_zero, List.set_cons_succ]
  refine AnyT.takeD 38 (i := 7) (v := ?_) (by decide) (by kernel_rfl) rfl rfl (by kernel_rfl) (by kernel_rfl) (by kernel_rfl) (by kernel_rfl) (fun _ _ _ h => h) (by assumption) (by rfl) (fun _ => rfl) ?_ ?_
  rotate_left
  focus (intro w hSw; (try dsimp only at hSw); go_split_ands; go_simp; (try with_reducible rfl))
  simp only [List.setIfInBounds_toArray, List.set_cons_zero, List.set_cons_succ]
  refine AnyT.only (i := 0) (by kernel_rfl) rfl (by rfl) (fun K hK => ?_)
  go_simp
  refine hK.out _ _ (fun _ => trivial) ?_
  clear hK K
  clear hSS
  have b1 : Below w.heap.size w (w.alloc (.cells #[] 5)).drew := ((Below.refl _ w).alloc (Nat.le_refl _) _).drew
  have z1 : w.heap.size ≤ (w.alloc (.cells #[] 5)).drew.heap.size := b1.size
  have o1 := (Own.empty w 5 1).drew
  obtain ⟨a2, c2, w2, r2, o2, g2, _⟩ := run_app (P := Try.prog) elB 22 o1 ((hb.from8 k (by omega)).below b1) (by unfold maxLen; omega) (by omega) z1
  simp only [Nat.zero_add, List.nil_append] at r2 o2
  have b2 : Below w.heap.size w w2 := Own.grown b1 o1 g2 z1 (Nat.le_refl _)
  obtain ⟨a3, c3, w3, r3, o3, g3, _⟩ := run_app (P := Try.prog) elB 22 o2 ((hb.to8 k (by omega)).below b2) (by unfold maxLen; omega) (by omega) b2.size
  have b3 : Below w.heap.size w w3 := Own.grown b2 o2 g3 b2.size (Nat.le_refl _)
  rw [show n - k + k = n by omega] at r3 o3
  rw [B8_app, ← txt_true] at o3
  have O3 := Lib.hid o3; clear o3
  have B3 := Lib.hid b3; clear b3
  clear g2 g3 o2 o1 b1 b2 z1
  refine AnyT.run1 (i := 4) (by kernel_rfl) rfl (by rfl) (fun _ => trivial) (fun c hc => by cases hc) (exec_append rfl rfl rfl r2) trivial ?_
  refine AnyT.run1 (i := 8) (by kernel_rfl) rfl (by rfl) (fun _ => trivial) (fun c hc => by cases hc) (exec_append rfl rfl rfl r3) trivial ?_
  refine AnyT.only (i := 9) (by kernel_rfl) rfl (by rfl) (fun K hK => ?_)
  go_simp
  refine hK.out _ _ (fun _ => trivial) ?_
  clear hK K r2 r3
  refine AnyT.done (by kernel_rfl) ?_ _
  gi_wp2_with fail
  refine callWide (turn_law w3 _ _ _ b (hb.below B3.out) (by omega)) ?_
  rintro e w4 ⟨a4, c4, o4, rfl, ord4, own4, b4⟩
  gi_wp2_with fail
  have b34 := B3.out.trans (b4.mono B3.out.size)
  refine callWide (turn_law w4 _ _ _ (txt b true k) (O3.out.rd.below b4) (by omega)) ?_
  rintro e w5 ⟨a5, c5, o5, rfl, ord5, own5, b5⟩
  have hlast := last_turned (k := k) (by rw [HL.out]; exact hkn) ord4 ord5
  rw [← hlast] at own5
  have hsaid := fun T => said_all ord4 T
  rw [HL.out] at hsaid
  have hll : (lastL b o4).length = n := by rw [lastL_len, ord4.len, HL.out]
  clear hlast ord5
  generalize lastL b o4 = x at *
  have rx := own4.rd.below b5
  have b35 := b34.trans (b5.mono b34.size)
  have s1 := rstr rx
  have s2 := rstr own5.rd
  have RX := Lib.hid rx; clear rx
  have B35 := Lib.hid b35; clear b35
  have HS := Lib.hid hsaid; clear hsaid
  have HLL := Lib.hid hll; clear hll
  have hmm := @run_makeMap Try.prog
  clear own4 own5 b4 b5 b34 hmod hw0 hw1 hkc hcut
  generalize zeroP o4 n = zp at *
  generalize zeroP o5 n = zq at *
  clear ord4
  gi_wp2_with fail
  clear s1 s2 hmm O3
  have hS5 : Below w5.heap.size w5 (w5.alloc (.map #[] 0)) := (Below.refl _ _).alloc (Nat.le_refl _) _
  have hM5 := Holds.made w5
  obtain ⟨M, hM⟩ : ∃ M, w5.heap.size = M := ⟨_, rfl⟩
  rw [hM] at hS5 hM5 ⊢
  have HM := Lib.hid hM; clear hM
  generalize w5.alloc (.map #[] 0) = w6 at *
  gi_loopw [12] (fun v12 wr => ∃ j : Nat, j ≤ n ∧ v12 = .int .i64 (j : Int) ∧ Below M w5 wr ∧ Holds wr M j (fun T => ((cntT (backL x) j T : Nat) : Int))) (fun v12 _ => n - (intOf v12).toNat)
  case atStart => exact ⟨0, Nat.zero_le _, rfl, hS5, hM5⟩
  case round =>
    clear hS5 hM5
    obtain ⟨j, hj, rfl, bj, hold⟩ := hrel
    rename World => wr
    by_cases hlt : j < n
    · have bj5 : Below w5.heap.size w5 wr := by rw [HM.out]; exact bj
      have hMr : M ≤ wr.heap.size := by have := bj5.size; rw [HM.out] at this; exact this
      gi_wp2_with fail
      refine callWide (back_law wr _ _ _ x (RX.out.below bj5) (by omega) (j : Int)) ?_
      rintro e w7 ⟨b7, ⟨hout, _⟩ | ⟨p, a7, c7, hp, hpn, rfl, own7⟩⟩
      · exact absurd ⟨by omega, by omega⟩ hout
      obtain rfl : j = p := by omega
      have h7 := hold.below b7
      have hT : (backL x j).length ≤ 1000000 := by rw [backL, saidL_len, HLL.out]; omega
      have s7 := rstr own7.rd
      have l7 := h7.look _ hT
      have hcl := cntT_le (backL x) j (backL x j)
      obtain ⟨w8, r8, h8, g8⟩ := h7.store (g := fun U => ((cntT (backL x) (j + 1) U : Nat) : Int)) (by omega) (backL x j) hT (((cntT (backL x) j (backL x j) : Nat) : Int) + 1) (by omega) (fun U => by
        show ((cntT (backL x) (j + 1) U : Nat) : Int) = _
        rw [cntT_succ]
        split <;> rename_i e
        · rw [e]; omega
        · omega)
      have b8 : Below M w5 w8 := (bj.trans (b7.mono hMr)).grown g8 (Nat.le_trans hMr b7.size) (fun k hk => by cases hk; exact Nat.le_refl _)
      have B8' := Lib.hid b8; clear b8
      have H8 := Lib.hid h8; clear h8
      have HMr := Lib.hid hMr; clear hMr
      clear hold h7 g8 bj bj5 own7 b7 hpn hp
      generalize cntT (backL x) j (backL x j) = u at *
      have hwu : IntKind.i64.wrap ((u : Int) + 1) = (u : Int) + 1 := IntWalk.i64_in _ (by omega)
      gi_wp2_with fail
      go_roundw
      case rel => exact ⟨j + 1, by omega, by simp, B8'.out, H8.out⟩
      case measure => simp [intOf]; omega
    · obtain rfl : n = j := by omega
      clear hlt hj
      have hold2 : Holds wr M (n + 0) (fun T => ((cntT (txt b true) n T : Nat) : Int) - ((cntT (txt b true) 0 T : Nat) : Int)) := by
        have : (fun T => ((cntT (txt b true) n T : Nat) : Int) - ((cntT (txt b true) 0 T : Nat) : Int)) = fun T => ((cntT (backL x) n T : Nat) : Int) := by
          funext T
          rw [HS.out T, cntT_zero]
          omega
        rw [this]; exact hold
      clear hold
      gi_wp2_with fail
      gi_loopw [15] (fun v15 wr => ∃ j : Nat, j ≤ n ∧ v15 = .int .i64 (j : Int) ∧ Below M w5 wr ∧ Holds wr M (n + j) (fun T => ((cntT (txt b true) n T : Nat) : Int) - ((cntT (txt b true) j T : Nat) : Int))) (fun v15 _ => n - (intOf v15).toNat)
      case atStart => exact ⟨0, Nat.zero_le _, rfl, bj, hold2⟩
      case round =>
        clear bj hold2
        obtain ⟨j, hj, rfl, bj, hold⟩ := hrel
        rename World => wq
        by_cases hlt : j < n
        · have bj5 : Below w5.heap.size w5 wq := by rw [HM.out]; exact bj
          have hMr : M ≤ wq.heap.size := by have := bj5.size; rw [HM.out] at this; exact this
          gi_wp2_with fail
          have hbq := ((hb.below B35.out).below bj5).drew
          have hl := HL.out
          have hjc : (j : Int) ≤ (cap : Int) := by have := hb.ncap; omega
          have hcut := fun W => run_cut (P := Try.prog) Try.underlying22 size8 hbq j (by omega) W
          have hstr := rstr (hbq.from8 j (by omega))
          have hstr2 := rstr (hbq.to8 j (by omega))
          have hadd : ¬ 9223372036854775807 < (bstr (b.drop j)).size + (bstr (b.take j)).size := by
            rw [bstr_size, bstr_size]; simp; omega
          have hT : (txt b true j).length ≤ 1000000 := by rw [txt_lenR b j (by omega)]; omega
          have hold' : Holds wq.drew M (n + j) (fun T => ((cntT (txt b true) n T : Nat) : Int) - ((cntT (txt b true) j T : Nat) : Int)) := hold
          have l7 := hold'.look _ hT
          have hc1 := cntT_le (txt b true) j (txt b true j)
          have hc2 := cntT_le (txt b true) n (txt b true j)
          obtain ⟨w8, r8, h8, g8⟩ := hold'.store (g := fun U => ((cntT (txt b true) n U : Nat) : Int) - ((cntT (txt b true) (j + 1) U : Nat) : Int)) (by omega) (txt b true j) hT (((cntT (txt b true) n (txt b true j) : Nat) : Int) - ((cntT (txt b true) j (txt b true j) : Nat) : Int) - 1) (by omega) (fun U => by
            show ((cntT (txt b true) n U : Nat) : Int) - ((cntT (txt b true) (j + 1) U : Nat) : Int) = _
            rw [cntT_succ]
            split <;> rename_i e
            · rw [e]; omega
            · omega)
          have b8 : Below M w5 w8 := (bj.drew).grown g8 hMr (fun k hk => by cases hk; exact Nat.le_refl _)
          have B8' := Lib.hid b8; clear b8
          have H8 := Lib.hid h8; clear h8
          have HMr := Lib.hid hMr; clear hMr
          clear hold hold' g8 bj bj5
          have hv : -100 ≤ ((cntT (txt b true) n (txt b true j) : Nat) : Int) - ((cntT (txt b true) j (txt b true j) : Nat) : Int) ∧ ((cntT (txt b true) n (txt b true j) : Nat) : Int) - ((cntT (txt b true) j (txt b true j) : Nat) : Int) ≤ 100 := by omega
          generalize ((cntT (txt b true) n (txt b true j) : Nat) : Int) - ((cntT (txt b true) j (txt b true j) : Nat) : Int) = u at *
          have hwu : IntKind.i64.wrap (u - 1) = u - 1 := IntWalk.i64_in _ (by omega)
          rw [txt_true, ← bstr_app] at l7 r8
          refine regionT [0, 1, 2, 3, 4, 5, 6, 7, 8, 9, 10, 11] (fun w' => w' = wq.drew) (by kernel_rfl) ?_
          have hSS : (fun w' : World => w' = wq.drew) wq.drew := rfl
          refine AnyT.takeD 81 (i := 0) (v := ?_) (by decide) (by kernel_rfl) rfl rfl (by kernel_rfl) (by kernel_rfl) (by kernel_rfl) (by kernel_rfl) (fun _ _ _ h => h) (by assumption) (by rfl) (fun _ => rfl) ?_ ?_
          rotate_left
          focus (intro w hSw; (try dsimp only at hSw); subst hSw; go_simp; (try with_reducible rfl))
          simp only [List.setIfInBounds_toArray, List.set_cons_zero, List.set_cons_succ]
          refine AnyT.takeD 82 (i := 1) (v := ?_) (by decide) (by kernel_rfl) rfl rfl (by kernel_rfl) (by kernel_rfl) (by kernel_rfl) (by kernel_rfl) (fun _ _ _ h => h) (by assumption) (by rfl) (fun _ => rfl) ?_ ?_
          rotate_left
          focus (intro w hSw; (try dsimp only at hSw); subst hSw; go_simp; (try with_reducible rfl))
          simp only [List.setIfInBounds_toArray, List.set_cons_zero, List.set_cons_succ]
          refine AnyT.takeD 83 (i := 2) (v := ?_) (by decide) (by kernel_rfl) rfl rfl (by kernel_rfl) (by kernel_rfl) (by kernel_rfl) (by kernel_rfl) (fun _ _ _ h => h) (by assumption) (by rfl) (fun _ => rfl) ?_ ?_
          rotate_left
          focus (intro w hSw; (try dsimp only at hSw); subst hSw; go_simp; (try with_reducible rfl))
          simp only [List.setIfInBounds_toArray, List.set_cons_zero, List.set_cons_succ]
          refine AnyT.takeD 84 (i := 3) (v := ?_) (by decide) (by kernel_rfl) rfl rfl (by kernel_rfl) (by kernel_rfl) (by kernel_rfl) (by kernel_rfl) (fun _ _ _ h => h) (by assumption) (by rfl) (fun _ => rfl) ?_ ?_
          rotate_left
          focus (intro w hSw; (try dsimp only at hSw); subst hSw; go_simp; (try with_reducible rfl))
          simp only [List.setIfInBounds_toArray, List.set_cons_zero, List.set_cons_succ]
          refine AnyT.takeD 85 (i := 4) (v := ?_) (by decide) (by kernel_rfl) rfl rfl (by kernel_rfl) (by kernel_rfl) (by kernel_rfl) (by kernel_rfl) (fun _ _ _ h => h) (by assumption) (by rfl) (fun _ => rfl) ?_ ?_
          rotate_left
          focus (intro w hSw; (try dsimp only at hSw); subst hSw; go_simp; (try with_reducible rfl))
          simp only [List.setIfInBounds_toArray, List.set_cons_zero, List.set_cons_succ]
          refine AnyT.takeD 86 (i := 5) (v := ?_) (by decide) (by kernel_rfl) rfl rfl (by kernel_rfl) (by kernel_rfl) (by kernel_rfl) (by kernel_rfl) (fun _ _ _ h => h) (by assumption) (by rfl) (fun _ => rfl) ?_ ?_
          rotate_left
          focus (intro w hSw; (try dsimp only at hSw); subst hSw; go_simp; (try with_reducible rfl))
          simp only [List.setIfInBounds_toArray, List.set_cons_zero, List.set_cons_succ]
          refine AnyT.takeD 87 (i := 6) (v := ?_) (by decide) (by kernel_rfl) rfl rfl (by kernel_rfl) (by kernel_rfl) (by kernel_rfl) (by kernel_rfl) (fun _ _ _ h => h) (by assumption) (by rfl) (fun _ => rfl) ?_ ?_
          rotate_left
          focus (intro w hSw; (try dsimp only at hSw); subst hSw; go_simp; (try with_reducible rfl))
          simp only [List.setIfInBounds_toArray, List.set_cons_zero, List.set_cons_succ]
          refine AnyT.takeD 88 (i := 7) (v := ?_) (by decide) (by kernel_rfl) rfl rfl (by kernel_rfl) (by kernel_rfl) (by kernel_rfl) (by kernel_rfl) (fun _ _ _ h => h) (by assumption) (by rfl) (fun _ => rfl) ?_ ?_
          rotate_left
          focus (intro w hSw; (try dsimp only at hSw); subst hSw; go_simp; (try with_reducible rfl))
          simp only [List.setIfInBounds_toArray, List.set_cons_zero, List.set_cons_succ]
          refine AnyT.takeD 89 (i := 8) (v := ?_) (by decide) (by kernel_rfl) rfl rfl (by kernel_rfl) (by kernel_rfl) (by kernel_rfl) (by kernel_rfl) (fun _ _ _ h => h) (by assumption) (by rfl) (fun _ => rfl) ?_ ?_
          rotate_left
          focus (intro w hSw; (try dsimp only at hSw); subst hSw; go_simp; (try with_reducible rfl))
          simp only [List.setIfInBounds_toArray, List.set_cons_zero, List.set_cons_succ]
          refine AnyT.takeD 90 (i := 9) (v := ?_) (by decide) (by kernel_rfl) rfl rfl (by kernel_rfl) (by kernel_rfl) (by kernel_rfl) (by kernel_rfl) (fun _ _ _ h => h) (by assumption) (by rfl) (fun _ => rfl) ?_ ?_
          rotate_left
          focus (intro w hSw; (try dsimp only at hSw); subst hSw; go_simp; (try with_reducible rfl))
          simp only [List.setIfInBounds_toArray, List.set_cons_zero, List.set_cons_succ]
          refine AnyT.takeD 91 (i := 10) (v := ?_) (by decide) (by kernel_rfl) rfl rfl (by kernel_rfl) (by kernel_rfl) (by kernel_rfl) (by kernel_rfl) (fun _ _ _ h => h) (by assumption) (by rfl) (fun _ => rfl) ?_ ?_
          rotate_left
          focus (intro w hSw; (try dsimp only at hSw); subst hSw; go_simp; (try with_reducible rfl))
          simp only [List.setIfInBounds_toArray, List.set_cons_zero, List.set_cons_succ]
          refine AnyT.takeD 92 (i := 11) (v := ?_) (by decide) (by kernel_rfl) rfl rfl (by kernel_rfl) (by kernel_rfl) (by kernel_rfl) (by kernel_rfl) (fun _ _ _ h => h) (by assumption) (by rfl) (fun _ => rfl) ?_ ?_
          rotate_left
          focus (intro w hSw; (try dsimp only at hSw); subst hSw; go_simp; (try with_reducible rfl))
          simp only [List.setIfInBounds_toArray, List.set_cons_zero, List.set_cons_succ]
          refine AnyT.only (i := 12) (by kernel_rfl) rfl (by rfl) (fun K hK => ?_)
          go_simp
          refine hK.out _ _ (fun h => absurd h (by decide +kernel)) ?_
          clear hK K
          refine AnyT.done (by kernel_rfl) ?_ _
          clear hSS l7 r8 hstr hstr2
          gi_wp2_with fail
          go_roundw
          case rel => exact ⟨j + 1, by omega, by simp, B8'.out, H8.out⟩
          case measure => simp [intOf]; omega
        · obtain rfl : n = j := by omega
          clear hlt hj
          obtain ⟨C, hC⟩ : ∃ C, wq.heap.size = C := ⟨_, rfl⟩
          have HC := Lib.hid hC; clear hC
          gi_wp2_with fail
          gi_loopw [16] (fun v16 wr => ∃ j : Nat, j ≤ n ∧ v16 = .int .i64 (j : Int) ∧ Below C wq wr) (fun v16 _ => n - (intOf v16).toNat)
          case atStart => exact ⟨0, Nat.zero_le _, rfl, Below.refl _ _⟩
          case round =>
            obtain ⟨j, hj, rfl, bx⟩ := hrel
            rename World => wx
            by_cases hlt : j < n
            · have bx5 : Below wq.heap.size wq wx := by rw [HC.out]; exact bx
              have bj5 : Below w5.heap.size w5 wq := by rw [HM.out]; exact bj
              gi_wp2_with fail
              have hbq := (((hb.below B35.out).below bj5).below bx5).drew
              have hl := HL.out
              have hjc : (j : Int) ≤ (cap : Int) := by have := hb.ncap; omega
              have hcut := fun W => run_cut (P := Try.prog) Try.underlying22 size8 hbq j (by omega) W
              have hstr := rstr (hbq.from8 j (by omega))
              have hstr2 := rstr (hbq.to8 j (by omega))
              have hadd : ¬ 9223372036854775807 < (bstr (b.drop j)).size + (bstr (b.take j)).size := by
                rw [bstr_size, bstr_size]; simp; omega
              have hT : (txt b true j).length ≤ 1000000 := by rw [txt_lenR b j (by omega)]; omega
              have hold' : Holds wx.drew M (n + n) (fun T => ((cntT (txt b true) n T : Nat) : Int) - ((cntT (txt b true) n T : Nat) : Int)) := hold.below bx5.drew
              have l7 := hold'.look _ hT
              rw [Int.sub_self, txt_true, ← bstr_app] at l7
              clear hold'
              refine regionT [0, 1, 2, 3, 4, 5, 6, 7, 8, 9, 10, 11] (fun w' => w' = wx.drew) (by kernel_rfl) ?_
              have hSS : (fun w' : World => w' = wx.drew) wx.drew := rfl
              refine AnyT.takeD 99 (i := 0) (v := ?_) (by decide) (by kernel_rfl) rfl rfl (by kernel_rfl) (by kernel_rfl) (by kernel_rfl) (by kernel_rfl) (fun _ _ _ h => h) (by assumption) (by rfl) (fun _ => rfl) ?_ ?_
              rotate_left
              focus (intro w hSw; (try dsimp only at hSw); subst hSw; go_simp; (try with_reducible rfl))
              simp only [List.setIfInBounds_toArray, List.set_cons_zero, List.set_cons_succ]
              refine AnyT.takeD 100 (i := 1) (v := ?_) (by decide) (by kernel_rfl) rfl rfl (by kernel_rfl) (by kernel_rfl) (by kernel_rfl) (by kernel_rfl) (fun _ _ _ h => h) (by assumption) (by rfl) (fun _ => rfl) ?_ ?_
              rotate_left
              focus (intro w hSw; (try dsimp only at hSw); subst hSw; go_simp; (try with_reducible rfl))
              simp only [List.setIfInBounds_toArray, List.set_cons_zero, List.set_cons_succ]
              refine AnyT.takeD 101 (i := 2) (v := ?_) (by decide) (by kernel_rfl) rfl rfl (by kernel_rfl) (by kernel_rfl) (by kernel_rfl) (by kernel_rfl) (fun _ _ _ h => h) (by assumption) (by rfl) (fun _ => rfl) ?_ ?_
              rotate_left
              focus (intro w hSw; (try dsimp only at hSw); subst hSw; go_simp; (try with_reducible rfl))
              simp only [List.setIfInBounds_toArray, List.set_cons_zero, List.set_cons_succ]
              refine AnyT.takeD 102 (i := 3) (v := ?_) (by decide) (by kernel_rfl) rfl rfl (by kernel_rfl) (by kernel_rfl) (by kernel_rfl) (by kernel_rfl) (fun _ _ _ h => h) (by assumption) (by rfl) (fun _ => rfl) ?_ ?_
              rotate_left
              focus (intro w hSw; (try dsimp only at hSw); subst hSw; go_simp; (try with_reducible rfl))
              simp only [List.setIfInBounds_toArray, List.set_cons_zero, List.set_cons_succ]
              refine AnyT.takeD 103 (i := 4) (v := ?_) (by decide) (by kernel_rfl) rfl rfl (by kernel_rfl) (by kernel_rfl) (by kernel_rfl) (by kernel_rfl) (fun _ _ _ h => h) (by assumption) (by rfl) (fun _ => rfl) ?_ ?_
              rotate_left
              focus (intro w hSw; (try dsimp only at hSw); subst hSw; go_simp; (try with_reducible rfl))
              simp only [List.setIfInBounds_toArray, List.set_cons_zero, List.set_cons_succ]
              refine AnyT.takeD 104 (i := 5) (v := ?_) (by decide) (by kernel_rfl) rfl rfl (by kernel_rfl) (by kernel_rfl) (by kernel_rfl) (by kernel_rfl) (fun _ _ _ h => h) (by assumption) (by rfl) (fun _ => rfl) ?_ ?_
              rotate_left
              focus (intro w hSw; (try dsimp only at hSw); subst hSw; go_simp; (try with_reducible rfl))
              simp only [List.setIfInBounds_toArray, List.set_cons_zero, List.set_cons_succ]
              refine AnyT.takeD 105 (i := 6) (v := ?_) (by decide) (by kernel_rfl) rfl rfl (by kernel_rfl) (by kernel_rfl) (by kernel_rfl) (by kernel_rfl) (fun _ _ _ h => h) (by assumption) (by rfl) (fun _ => rfl) ?_ ?_
              rotate_left
              focus (intro w hSw; (try dsimp only at hSw); subst hSw; go_simp; (try with_reducible rfl))
              simp only [List.setIfInBounds_toArray, List.set_cons_zero, List.set_cons_succ]
              refine AnyT.takeD 106 (i := 7) (v := ?_) (by decide) (by kernel_rfl) rfl rfl (by kernel_rfl) (by kernel_rfl) (by kernel_rfl) (by kernel_rfl) (fun _ _ _ h => h) (by assumption) (by rfl) (fun _ => rfl) ?_ ?_
              rotate_left
              focus (intro w hSw; (try dsimp only at hSw); subst hSw; go_simp; (try with_reducible rfl))
              simp only [List.setIfInBounds_toArray, List.set_cons_zero, List.set_cons_succ]
              refine AnyT.takeD 107 (i := 8) (v := ?_) (by decide) (by kernel_rfl) rfl rfl (by kernel_rfl) (by kernel_rfl) (by kernel_rfl) (by kernel_rfl) (fun _ _ _ h => h) (by assumption) (by rfl) (fun _ => rfl) ?_ ?_
              rotate_left
              focus (intro w hSw; (try dsimp only at hSw); subst hSw; go_simp; (try with_reducible rfl))
              simp only [List.setIfInBounds_toArray, List.set_cons_zero, List.set_cons_succ]
              refine AnyT.takeD 108 (i := 9) (v := ?_) (by decide) (by kernel_rfl) rfl rfl (by kernel_rfl) (by kernel_rfl) (by kernel_rfl) (by kernel_rfl) (fun _ _ _ h => h) (by assumption) (by rfl) (fun _ => rfl) ?_ ?_
              rotate_left
              focus (intro w hSw; (try dsimp only at hSw); subst hSw; go_simp; (try with_reducible rfl))
              simp only [List.setIfInBounds_toArray, List.set_cons_zero, List.set_cons_succ]
              refine AnyT.takeD 109 (i := 10) (v := ?_) (by decide) (by kernel_rfl) rfl rfl (by kernel_rfl) (by kernel_rfl) (by kernel_rfl) (by kernel_rfl) (fun _ _ _ h => h) (by assumption) (by rfl) (fun _ => rfl) ?_ ?_
              rotate_left
              focus (intro w hSw; (try dsimp only at hSw); subst hSw; go_simp; (try with_reducible rfl))
              simp only [List.setIfInBounds_toArray, List.set_cons_zero, List.set_cons_succ]
              refine AnyT.takeD 110 (i := 11) (v := ?_) (by decide) (by kernel_rfl) rfl rfl (by kernel_rfl) (by kernel_rfl) (by kernel_rfl) (by kernel_rfl) (fun _ _ _ h => h) (by assumption) (by rfl) (fun _ => rfl) ?_ ?_
              rotate_left
              focus (intro w hSw; (try dsimp only at hSw); subst hSw; go_simp; (try with_reducible rfl))
              simp only [List.setIfInBounds_toArray, List.set_cons_zero, List.set_cons_succ]
              refine AnyT.done (by kernel_rfl) ?_ _
              clear hSS l7 hstr hstr2
              gi_wp2_with fail
              go_roundw
              case rel => exact ⟨j + 1, by omega, by simp, bx.drew⟩
              case measure => simp [intOf]; omega
            · obtain rfl : n = j := by omega
              have hCM : M ≤ C := by have := (show Below w5.heap.size w5 wq by rw [HM.out]; exact bj).size; rw [HM.out, HC.out] at this; exact this
              have b1 := B35.out.trans ((bj.trans (bx.mono hCM)).mono (by have := B35.out.size; rw [HM.out] at this; exact this))
              clear hlt hj bx bj hold
              gi_wp2_with fail
              refine callWide (turns_any _) ?_
              rintro e w9 ⟨rfl, b9⟩
              have b2 := b1.trans (b9.mono b1.size)
              clear b1 b9
              gi_wp2
              refine bodyPost_ret (results_tmp rfl _ _ _) rfl ?_
              exact ⟨rfl, b2⟩
end Go.Proofs.Ytjjdckbdjmbndaa
