/- front.mover: the list of bytes; at, place. -/
import Derived.Test.YtindbmfccgeikaaFroC
import Derived.Laws.IdiomCopy
import Derived.Lib.IndexLaws
namespace Go.Proofs.Ytindbmfccgeikaa
set_option linter.unusedSimpArgs false
set_option linter.unusedVariables false
open Go.RowKit

/-- a list with the element of a place at the front -/
def mvd (ys : List UInt8) (k : Nat) : List UInt8 := at8 ys k :: (ys.take k ++ ys.drop (k + 1))
theorem mvd_len (ys : List UInt8) (k : Nat) (h : k < ys.length) : (mvd ys k).length = ys.length := by simp [mvd]; omega
theorem at8_mem (ys : List UInt8) (k : Nat) (h : k < ys.length) : at8 ys k ∈ ys := by
  simp only [at8, List.getD_eq_getElem?_getD, List.getElem?_eq_getElem h, Option.getD_some]; exact List.getElem_mem h
theorem mvd_perm (ys : List UInt8) (k : Nat) (h : k < ys.length) : (mvd ys k).Perm ys := by
  have e : ys.drop k = at8 ys k :: ys.drop (k + 1) := by
    rw [List.drop_eq_getElem_cons h]; simp [at8, h, List.getD_eq_getElem?_getD]
  have : ys = ys.take k ++ (at8 ys k :: ys.drop (k + 1)) := by rw [← e, List.take_append_drop]
  unfold mvd
  conv => rhs; rw [this]
  exact List.perm_middle.symm
theorem mvd_mem (ys : List UInt8) (k : Nat) (h : k < ys.length) (c : UInt8) : c ∈ mvd ys k ↔ c ∈ ys := (mvd_perm ys k h).mem_iff

theorem copy_shift {w : World} {lo g m cap k : Nat} {ys : List UInt8} (ho : Own w 5 1 lo (some ⟨g, 0, none⟩) m cap (B8 ys)) (hk : k < m) :
    ∃ w', (Builtin.copy_ #[22, 22] 3 #[.slice (cutA (some ⟨g, 0, none⟩) 1 cap) k (cap - 1), .slice (some ⟨g, 0, none⟩) k cap]).run Try.prog w = .ok (.int .i64 (k : Int)) w' ∧
      Own w' 5 1 lo (some ⟨g, 0, none⟩) m cap (B8 (ys.take 1 ++ ys.take k ++ ys.drop (k + 1))) ∧ w.grownBy w' (some g) := by
  have hl := ho.rd.len8
  have hrd := ho.rd
  have ho2 := ho
  obtain ⟨_, hc⟩ := ho.cases
  rcases hc with ⟨h0, _⟩ | ⟨g', cur, h1, hb, hg, hnc, hcm, hcs, ht⟩
  · cases h0
  cases h1
  rcases Nat.eq_zero_or_pos k with h0 | hk0
  · subst h0
    refine ⟨w, run_copy_none (P := Try.prog) w _ _ _ 5 _ _ _ _ _ _ Try.underlying22 (by kernel_rfl) rfl, ?_, World.grownBy.refl _ _⟩
    rw [show ys.take 1 ++ ys.take 0 ++ ys.drop (0 + 1) = ys by rw [List.take_zero, List.append_nil, Nat.zero_add, List.take_append_drop]]
    exact ho2
  · have hcA : cutA (some ⟨g, 0, none⟩) 1 cap = some ⟨g, 1, none⟩ := by
      unfold cutA
      rw [if_neg (by omega), Option.map_some, Addr.add_lit]
    rw [hcA]
    have hcur : cur.toList.take m = B8 ys := by simpa using ht
    have hcsz : cur.size = cap := by omega
    have hr := run_copy_row (P := Try.prog) w 22 22 3 5 g 1 k (cap - 1) ⟨g, 0, none⟩ k cap cur 5 (B8 (ys.take k)) Try.underlying22 (by kernel_rfl) hg (by simp [B8]; omega)
      (fun j v hv => (hrd.to8 k (by omega)).cell _ rfl j v hv) (by rw [B8_len, List.length_take]; omega) (B8_one _)
    have hkl : (B8 (ys.take k)).length = k := by rw [B8_len, List.length_take]; omega
    rw [hkl] at hr
    refine ⟨_, hr, ⟨⟨?_, .inr ⟨g, cap, _, rfl, hb, setRow_heap w g cur _ _ _ hg, hnc, hcm, ?_, ?_⟩⟩, B8_one _⟩, ⟨rfl, rfl, rfl, by simp, fun q hq hne => setRow_other w g q _ (fun e => hne (by rw [e]))⟩⟩
    · rw [B8_len]; simp; omega
    · simp [hkl]; omega
    · have e1 : cur.toList.take 1 = B8 (ys.take 1) := by
        rw [← B8_take, ← hcur, List.take_take, Nat.min_eq_left (by omega)]
      have e2 : (cur.toList.drop (1 + k)).take (m - (1 + k)) = B8 (ys.drop (k + 1)) := by
        rw [← B8_drop, ← hcur, Nat.add_comm 1 k, List.drop_take]
      rw [← B8_app, ← B8_app, ← e1, ← e2, Nat.mul_one]
      simp only [List.toList_toArray]
      have hA : (cur.toList.take 1 ++ B8 (ys.take k)).length = 1 + k := by
        rw [List.length_append, hkl, List.length_take, Array.length_toList]; omega
      rw [List.take_append, hA, List.take_of_length_le (by rw [hA]; omega)]

set_option maxRecDepth 100000 in
set_option maxHeartbeats 2000000 in
theorem at_law (w : World) (L g lo m cap k : Nat) (ys : List UInt8) (hL : Boxed w L 22 (.slice (some ⟨g, 0, none⟩) m cap)) (ho : Own w 5 1 lo (some ⟨g, 0, none⟩) m cap (B8 ys)) (hLg : L ≠ g) (hk : k < m) (hm : m ≤ 1000000) :
    Calls Try.prog 29 #[.int .i64 (k : Int), .pointer (some ⟨L, 0, none⟩)] w fun e w' => e = .returned (.int .u8 ((at8 ys k).toNat : Int)) ∧ Own w' 5 1 lo (some ⟨g, 0, none⟩) m cap (B8 (mvd ys k)) ∧ w.grownBy w' (some g) := by
  have hl := ho.rd.len8
  have hnc := ho.rd.ncap
  obtain ⟨w2, hcopy, o2, g2⟩ := copy_shift ho.drew hk
  have hL2 : Boxed w2 L 22 (.slice (some ⟨g, 0, none⟩) m cap) := (g2.block L hL.lt (fun e => hLg (by simp at e; exact e))).trans hL
  have hcut1 := fun W => run_cut2 (P := Try.prog) Try.underlying22 (by kernel_rfl) ho.rd 1 (k + 1) (by omega) (by omega) W
  have hcut2 := fun W => run_cut2 (P := Try.prog) Try.underlying22 (by kernel_rfl) ho.rd 0 k (by omega) (by omega) W
  have c0 := hL.cell
  have r0 := ho.read (B8_get ys k (by omega))
  have c1 := r0.1
  obtain ⟨v, hv⟩ : ∃ v, at8 ys k = v := ⟨_, rfl⟩
  have hz : (B8 (ys.take 1 ++ ys.take k ++ ys.drop (k + 1))).set 0 (.int .u8 (v.toNat : Int)) = B8 (mvd ys k) := by
    unfold mvd
    rw [hv]
    cases ys with
    | nil => simp at hl; omega
    | cons y t => simp [B8]
  have q := (Own.read o2 (j := 0) (u := .int .u8 ((at8 (ys.take 1 ++ ys.take k ++ ys.drop (k + 1)) 0).toNat : Int)) (B8_get _ _ (by simp; omega)))
  have q1 := q.1
  have q2 := q.2
  have o3 := o2.set 0 (.int .u8 (v.toNat : Int)) rfl
  rw [hz] at o3
  have cL2 := hL2.cell
  rw [hv] at c1 ⊢
  have O3 := Lib.hid o3; clear o3
  have hkm : (k : Int) < (m : Int) := by omega
  have GW := Lib.hid (show w.grownBy (w2.setCell ⟨g, 0, none⟩ (.int .u8 (v.toNat : Int))) (some g) from ⟨g2.os, g2.tape, g2.output, by have := g2.size; simpa using this, fun j hj hne => (Below.heap_setCell _ _ _ j (fun e => hne (by rw [e]))).trans (g2.block j hj hne)⟩)
  clear ho o2 hz q r0 g2 hcut1 hcut2
  by_cases hc1 : cap = 1
  · subst hc1
    have e : cutA (some ⟨g, 0, none⟩) 1 1 = some ⟨g, 0, none⟩ := rfl
    rw [e] at hcopy
    go_enter Try.func29, Try.ntmps29
    go_upto_region 2 with fail
    refine region_tail 7 (by kernel_rfl) (by kernel_rfl) ?_
    simp only [List.take_succ_cons, List.take_zero, List.drop_succ_cons, List.drop_zero]
    go_wp2_with (first | (refine still_wp rfl rfl ?_; intro _ _) | (refine wpStill_nil ?_) | (refine wpList_copyR hcopy rfl rfl rfl rfl rfl ?_))
    go_ret
    exact ⟨rfl, O3.out, GW.out⟩
  · have e : cutA (some ⟨g, 0, none⟩) 1 cap = some ⟨g, 1, none⟩ := by
      unfold cutA
      rw [if_neg hc1, Option.map_some, Addr.add_lit]
    rw [e] at hcopy
    clear e
    go_enter Try.func29, Try.ntmps29
    go_upto_region 2 with fail
    refine region_tail 7 (by kernel_rfl) (by kernel_rfl) ?_
    simp only [List.take_succ_cons, List.take_zero, List.drop_succ_cons, List.drop_zero]
    go_wp2_with (first | (refine still_wp rfl rfl ?_; intro _ _) | (refine wpStill_nil ?_) | (refine wpList_copyR hcopy rfl rfl rfl rfl rfl ?_))
    go_ret
    exact ⟨rfl, O3.out, GW.out⟩
end Go.Proofs.Ytindbmfccgeikaa
