/- The document's Pieces, Packed: the walks. -/
import Derived.Test.YtjlhhbbciaeggaaRleD
import Derived.Test.YtjlhhbbciaeggaaRleF
namespace Go.Proofs.Ytjlhhbbciaeggaa
set_option linter.unusedSimpArgs false
set_option linter.unusedVariables false
open Go.RowKit

theorem Own.readZ {w : World} {e sz lo g n cap : Nat} {cs : List Value} (h : Own w e sz lo (some ⟨g, 0, none⟩) n cap cs) {j : Nat} {u : Value} (hu : cs[j]? = some u) : w.cell? ⟨g, j, none⟩ = some u ∧ w.frozen? ⟨g, j, none⟩ = false := by
  have hj : j < n * sz := by have := (List.getElem?_eq_some_iff.1 hu).1; have := h.1.1; omega
  exact ⟨(h.1.cellAt j hj).trans hu, h.1.frozenAt j⟩
theorem Own.setZ {w : World} {e sz lo g n cap : Nat} {cs : List Value} (h : Own w e sz lo (some ⟨g, 0, none⟩) n cap cs) (j : Nat) (v : Value) (hv : v.oneCell' = true) : Own (w.setCell ⟨g, j, none⟩ v) e sz lo (some ⟨g, 0, none⟩) n cap (cs.set j v) :=
  ⟨(h.1.stored j v).1, fun u hu => by
    rcases List.mem_or_eq_of_mem_set hu with h1 | h1
    · exact h.2 u h1
    · rw [h1]; exact hv⟩

/-- pieces, as cells -/
def PC (l : List (UInt8 × Nat)) : List Value := l.flatMap fun p => [.int .u8 (p.1.toNat : Int), .int .i64 (p.2 : Int)]
theorem PC_app (l m : List (UInt8 × Nat)) : PC (l ++ m) = PC l ++ PC m := by simp [PC]
theorem PC_len (l : List (UInt8 × Nat)) : (PC l).length = l.length * 2 := by
  induction l with
  | nil => rfl
  | cons p l ih => simp only [PC, List.flatMap_cons, List.length_append, List.length_cons, List.length_nil] at ih ⊢; omega
theorem PC_one (l : List (UInt8 × Nat)) : ∀ u ∈ PC l, u.oneCell' = true := by
  intro u hu
  simp only [PC, List.mem_flatMap] at hu
  obtain ⟨p, _, hu⟩ := hu
  simp at hu
  rcases hu with rfl | rfl <;> rfl
theorem PC_last (i : List (UInt8 × Nat)) (d : UInt8) (k : Nat) : (PC (i ++ [(d, k)]))[i.length * 2]? = some (.int .u8 (d.toNat : Int)) ∧ (PC (i ++ [(d, k)]))[i.length * 2 + 1]? = some (.int .i64 (k : Int)) := by
  rw [PC_app, List.getElem?_append_right (by rw [PC_len]; exact Nat.le_refl _), List.getElem?_append_right (by rw [PC_len]; omega), PC_len]
  simp [PC]
theorem PC_set (i : List (UInt8 × Nat)) (d : UInt8) (k k' : Nat) : (PC (i ++ [(d, k)])).set (i.length * 2 + 1) (.int .i64 (k' : Int)) = PC (i ++ [(d, k')]) := by
  rw [PC_app, PC_app, List.set_append_right _ _ (by rw [PC_len]; omega), PC_len]
  simp [PC]
theorem PC_at (l : List (UInt8 × Nat)) (j : Nat) (p : UInt8 × Nat) (h : l[j]? = some p) : (PC l)[j * 2]? = some (.int .u8 (p.1.toNat : Int)) ∧ (PC l)[j * 2 + 1]? = some (.int .i64 (p.2 : Int)) := by
  obtain ⟨hj, hv⟩ := List.getElem?_eq_some_iff.1 h
  have e : l = l.take j ++ ([p] ++ l.drop (j + 1)) := by
    rw [List.singleton_append, ← hv, ← List.drop_eq_getElem_cons hj, List.take_append_drop]
  have hl : (l.take j).length = j := by rw [List.length_take]; omega
  rw [e, PC_app, PC_app]
  constructor
  · rw [List.getElem?_append_right (by rw [PC_len, hl]; exact Nat.le_refl _), PC_len, hl]; simp [PC]
  · rw [List.getElem?_append_right (by rw [PC_len, hl]; omega), PC_len, hl]; simp [PC]
theorem elP : ElTy Try.prog 41 45 (.agg #[.int .u8 0, .int .i64 0]) 2 16 := ⟨Try.underlying41, info_parts (by kernel_rfl), rfl, by decide⟩
theorem pcs_small (b : List UInt8) : ∀ p ∈ pcs b, 1 ≤ p.2 ∧ p.2 ≤ 255 := by
  intro p hp
  obtain ⟨k, hk, rfl⟩ := List.getElem_of_mem hp
  obtain ⟨h1, h2⟩ := pcs_get b k hk
  rw [List.getElem?_eq_getElem hk] at h2
  have h2 := Option.some.inj h2
  rw [h2]
  exact ⟨runN_pos (by rw [List.length_drop]; omega), (runN_le _).1⟩
theorem sumP_ge : ∀ (l : List (UInt8 × Nat)), (∀ p ∈ l, 1 ≤ p.2) → l.length ≤ sumP l
  | [], _ => Nat.le_refl _
  | p :: l, h => by
    have h1 := sumP_ge l fun q hq => h q (List.mem_cons_of_mem _ hq)
    have h2 := h p List.mem_cons_self
    simp only [sumP, List.map_cons, List.sum_cons, List.length_cons] at h1 ⊢
    omega
theorem pcs_len (b : List UInt8) : (pcs b).length ≤ b.length := by
  have := sumP_ge (pcs b) fun p hp => (pcs_small b p hp).1
  rwa [pcs_sum] at this

set_option maxRecDepth 100000 in
set_option maxHeartbeats 4000000 in
theorem refPieces_law (w : World) (ad : Option Addr) (n cap : Nat) (b : List UInt8) (hb : Rd w 1 ad n cap (B8 b)) (hn : n ≤ 100000) :
    Calls Try.prog 16 #[.slice ad n cap] w fun e w' => ∃ a c, e = .returned (.slice a (pcs b).length c) ∧ Own w' 45 2 w.heap.size a (pcs b).length c (PC (pcs b)) ∧ Below w.heap.size w w' := by
  have hl := hb.len8
  have HL := Lib.hid hl; clear hl
  go_enter Try.func16, Try.ntmps16
  go_wp2_with fail
  go_loopg [3, 4] n (fun gk o i wr => ∃ j : Nat, j ≤ n ∧ gk = n - j ∧ i = .int .i64 (j : Int) ∧ Below w.heap.size w wr ∧ ∃ a c, o = .slice a (pcs (b.take j)).length c ∧ Own wr 45 2 w.heap.size a (pcs (b.take j)).length c (PC (pcs (b.take j))))
  case atStart => exact ⟨0, Nat.zero_le _, by simp, rfl, Below.refl _ _, none, 0, rfl, Own.nil _ _ _ _⟩
  case round =>
    obtain ⟨j, hj, rfl, rfl, hbw, a, c, rfl, oo⟩ := hrel
    rename World => wr
    by_cases hlt : j < n
    · obtain ⟨nx, cx⟩ := (hb.below hbw).get8 hlt
      have hsn : b.take (j + 1) = b.take j ++ [at8 b j] := by
        have hjb : j < b.length := by rw [HL.out]; exact hlt
        rw [List.take_succ_eq_append_getElem hjb]; simp [at8, hjb]
      have hpc : pcs (b.take (j + 1)) = ext (pcs (b.take j)) (at8 b j) := by rw [hsn, pcs_snoc]
      have hsm := pcs_small (b.take j)
      have hle := pcs_len (b.take j)
      have hlj : (b.take j).length = j := by rw [List.length_take, HL.out]; omega
      rw [hlj] at hle
      obtain ⟨x, hx⟩ : ∃ x, at8 b j = x := ⟨_, rfl⟩
      obtain ⟨l, hll⟩ : ∃ l, pcs (b.take j) = l := ⟨_, rfl⟩
      rw [hx] at cx hpc
      rw [hll] at oo hpc hsm hle ⊢
      clear hsn hx hll hlj
      have hjn : (j : Int) < (n : Int) := by omega
      have hsz := hbw.size
      rcases List.eq_nil_or_concat l with rfl | ⟨i, ⟨d, k⟩, rfl⟩
      · have e1 : ext [] x = [(x, 1)] := rfl
        rw [e1] at hpc
        have HPC := Lib.hid hpc; clear hpc
        have t1 : decide ((([] : List (UInt8 × Nat)).length : Int) > 0) = false := by simp
        have H1 : Hid (0 + 1 ≤ maxLen) := Lib.hid (by decide)
        have H2 : Hid ((0 + 1) * 16 ≤ 140737488355328) := Lib.hid (by decide)
        go_upto_region 6 with fail
        (try simp only [List.append])
        refine wp_region_quiet_lit (by kernel_rfl) (by kernel_rfl) ?_
        repeat (go_big_quiet_step (fail))
        refine wpQuiet_nil ?_
        intro _ hw'
        obtain ⟨nq, hw''⟩ := hw'
        subst hw''
        have oo4 := ownDraws oo nq
        have hb4 := bDraws hbw nq
        have cx4 : (wr.drewN nq).cell? (sAt ad j) = some (.int .u8 (x.toNat : Int)) := cx
        have hz4 : w.heap.size ≤ (wr.drewN nq).heap.size := hb4.size
        clear oo hbw cx
        generalize wr.drewN nq = w4 at *
        go_wp2_with (refine wpList_push rfl _ _ _ rfl elP rfl rfl oo4 (ys := [.int .u8 (x.toNat : Int), .int .i64 1]) rfl (by simp [Value.oneCell']) H1.out H2.out hz4 ?_; intro a' c' w1 o1 r1 _)
        go_roundg (n - (j + 1))
        case measure => omega
        case rel => exact ⟨j + 1, by omega, rfl, by simp, Own.grown hb4 oo4 r1 hz4 (Nat.le_refl _), a', c', by rw [HPC.out]; rfl, by rw [HPC.out]; exact o1⟩
      · rw [List.concat_eq_append] at *
        obtain ⟨q, hq⟩ : ∃ q, i.length = q := ⟨_, rfl⟩
        have hk := (hsm (d, k) (by simp)).2
        have hlen : (i ++ [(d, k)]).length = q + 1 := by rw [List.length_append, hq]; rfl
        rw [hlen] at oo hle ⊢
        rw [ext_snoc] at hpc
        obtain ⟨g, rfl⟩ : ∃ g, a = some ⟨g, 0, none⟩ := by
          obtain ⟨_, hc⟩ := oo.cases
          rcases hc with ⟨_, h, _⟩ | ⟨g, _, h, _⟩
          · omega
          · exact ⟨g, h⟩
        obtain ⟨p1, p2⟩ := PC_last i d k
        rw [hq] at p1 p2
        obtain ⟨c1, f1⟩ := oo.readZ p1
        obtain ⟨c2, f2⟩ := oo.readZ p2
        have eq1 : (q : Int) + 1 - 1 = (q : Int) := by omega
        have hq1 : (q : Int) < (q : Int) + 1 := by omega
        have hq0 : (0 : Int) < (q : Int) + 1 := by omega
        have hqb : q + 1 ≤ 100000 := by omega
        have t1 : decide (((q : Int) + 1) > 0) = true := deT (by omega)
        have H1 : Hid ((q + 1) + 1 ≤ maxLen) := Lib.hid (by unfold maxLen; omega)
        have H2 : Hid (((q + 1) + 1) * 16 ≤ 140737488355328) := Lib.hid (by omega)
        have HLEN := Lib.hid hlen
        clear hsm hle p1 hlen
        have P2 := Lib.hid p2; clear p2
        obtain ⟨u, hu⟩ : ∃ u, d.toNat = u := ⟨_, rfl⟩
        obtain ⟨v, hv⟩ : ∃ v, x.toNat = v := ⟨_, rfl⟩
        by_cases hdx : d = x
        · subst hdx
          by_cases hk2 : k < 255
          · rw [if_pos ⟨rfl, hk2⟩] at hpc
            have HPC := Lib.hid hpc; clear hpc
            have t3 : decide ((k : Int) < 255) = true := deT (by omega)
            clear hu hv
            go_upto_region 6 with fail
            (try simp only [List.append])
            refine wp_region_quiet_lit (by kernel_rfl) (by kernel_rfl) ?_
            repeat (go_big_quiet_step (fail))
            refine wpQuiet_nil ?_
            intro _ hw'
            obtain ⟨nq, hw''⟩ := hw'
            subst hw''
            have oo4 := ownDraws oo nq
            have hb4 := bDraws hbw nq
            have c4 : (wr.drewN nq).cell? ⟨g, q * 2 + 1, none⟩ = some (.int .i64 (k : Int)) := c2
            have f4 : (wr.drewN nq).frozen? ⟨g, q * 2 + 1, none⟩ = false := f2
            have o5 := oo4.setZ (q * 2 + 1) (.int .i64 ((k + 1 : Nat) : Int)) rfl
            rw [← hq, PC_set i d k (k + 1), hq] at o5
            have hgb : w.heap.size ≤ g := (oo4.blk rfl).1
            have b5 := hb4.setCell (p := ⟨g, q * 2 + 1, none⟩) hgb (.int .i64 ((k + 1 : Nat) : Int))
            obtain ⟨k1, hk1⟩ : ∃ k1, k + 1 = k1 := ⟨_, rfl⟩
            rw [hk1] at o5 b5 HPC
            have ek1 : (k : Int) + 1 = (k1 : Int) := by omega
            have wk1 : IntKind.i64.wrap (k1 : Int) = (k1 : Int) := IntWalk.i64_in _ (by omega)
            have O5 := Lib.hid o5; clear o5
            have B5 := Lib.hid b5; clear b5
            clear oo hbw cx c1 c2 f1 f2 oo4 hb4
            generalize wr.drewN nq = w4 at *
            go_wp2_with fail
            go_roundg (n - (j + 1))
            case measure => omega
            case rel => exact ⟨j + 1, by omega, rfl, by simp, B5.out, some ⟨g, 0, none⟩, c, by rw [HPC.out, List.length_append, hq]; rfl, by rw [HPC.out, List.length_append, hq]; exact O5.out⟩
          · rw [if_neg (fun h => hk2 h.2)] at hpc
            have HPC := Lib.hid hpc; clear hpc
            have t3 : decide ((k : Int) < 255) = false := deF (by omega)
            clear hu hv
            go_upto_region 6 with fail
            (try simp only [List.append])
            refine wp_region_quiet_lit (by kernel_rfl) (by kernel_rfl) ?_
            repeat (go_big_quiet_step (fail))
            refine wpQuiet_nil ?_
            intro _ hw'
            obtain ⟨nq, hw''⟩ := hw'
            subst hw''
            have oo4 := ownDraws oo nq
            have hb4 := bDraws hbw nq
            have cx4 : (wr.drewN nq).cell? (sAt ad j) = some (.int .u8 (d.toNat : Int)) := cx
            have hz4 : w.heap.size ≤ (wr.drewN nq).heap.size := hb4.size
            clear oo hbw cx
            generalize wr.drewN nq = w4 at *
            go_wp2_with (refine wpList_push rfl _ _ _ rfl elP rfl rfl oo4 (ys := [.int .u8 (d.toNat : Int), .int .i64 1]) rfl (by simp [Value.oneCell']) H1.out H2.out hz4 ?_; intro a' c' w1 o1 r1 _)
            go_roundg (n - (j + 1))
            case measure => omega
            case rel => exact ⟨j + 1, by omega, rfl, by simp, Own.grown hb4 oo4 r1 hz4 (Nat.le_refl _), a', c', by rw [HPC.out, List.length_append, HLEN.out]; rfl, by rw [HPC.out, List.length_append, HLEN.out, PC_app]; exact o1⟩
        · rw [if_neg (fun h => hdx h.1)] at hpc
          have HPC := Lib.hid hpc; clear hpc
          have t2 : ((d.toNat : Int) == (x.toNat : Int)) = false := by rw [beq_eq_false_iff_ne]; intro h; exact hdx (UInt8.toNat_inj.1 (by omega))
          clear hu hv
          go_upto_region 6 with fail
          (try simp only [List.append])
          refine wp_region_quiet_lit (by kernel_rfl) (by kernel_rfl) ?_
          repeat (go_big_quiet_step (fail))
          refine wpQuiet_nil ?_
          intro _ hw'
          obtain ⟨nq, hw''⟩ := hw'
          subst hw''
          have oo4 := ownDraws oo nq
          have hb4 := bDraws hbw nq
          have cx4 : (wr.drewN nq).cell? (sAt ad j) = some (.int .u8 (x.toNat : Int)) := cx
          have hz4 : w.heap.size ≤ (wr.drewN nq).heap.size := hb4.size
          clear oo hbw cx
          generalize wr.drewN nq = w4 at *
          go_wp2_with (refine wpList_push rfl _ _ _ rfl elP rfl rfl oo4 (ys := [.int .u8 (x.toNat : Int), .int .i64 1]) rfl (by simp [Value.oneCell']) H1.out H2.out hz4 ?_; intro a' c' w1 o1 r1 _)
          go_roundg (n - (j + 1))
          case measure => omega
          case rel => exact ⟨j + 1, by omega, rfl, by simp, Own.grown hb4 oo4 r1 hz4 (Nat.le_refl _), a', c', by rw [HPC.out, List.length_append, HLEN.out]; rfl, by rw [HPC.out, List.length_append, HLEN.out, PC_app]; exact o1⟩
    · obtain rfl : j = n := by omega
      rw [List.take_of_length_le (by rw [HL.out]; exact Nat.le_refl _)] at oo ⊢
      go_wp2_with fail
      go_ret
      exact ⟨a, c, rfl, oo, hbw⟩
end Go.Proofs.Ytjlhhbbciaeggaa
