/- The tables of both sums: what 'steps' makes. -/
import Derived.Test.YtglhkkcogdbidaaCrcA
namespace Go.Proofs.Ytglhkkcogdbidaa
set_option linter.unusedSimpArgs false
set_option linter.unusedVariables false
open Go.RowKit M

theorem tab_step {B : Nat} {f : Nat → BitVec 32} {w wr : World} {j : Nat} (h : TabInv B f w j wr) (hj : j < 256) (hB : B ≤ w.heap.size) :
    TabInv B f w (j + 1) (wr.setCell ⟨B + 1, j, none⟩ (.int .u32 ((f j).toNat : Int))) := by
  obtain ⟨h1, h2, h3⟩ := h
  refine ⟨?_, ?_, h3.setCell (by simp) _⟩
  · rw [heap_setCell_same wr (B + 1) j _ _ _ h1, tabOf_set f j hj]
  · rw [Below.heap_setCell _ _ _ _ (by simp)]; exact h2
theorem tabOf_size (f : Nat → BitVec 32) (k : Nat) : (tabOf f k).size = 256 := by simp [tabOf]
theorem tabOf_one (f : Nat → BitVec 32) (k : Nat) : (tabOf f k).all (·.oneCell') = true := by
  rw [Array.all_eq_true]
  intro i hi
  simp only [tabOf, Array.getElem_ofFn]
  split <;> rfl

set_option maxRecDepth 100000 in
set_option maxHeartbeats 400000 in
theorem lowSteps_any (w : World) :
    Calls Try.prog 18 #[.func (.func 19) #[] #[], .func (.func 20) #[] #[]] w fun e w' => e = .returned (.agg (tabOf lowTab 256)) ∧ Below w.heap.size w w' := by
  have hz := zero33
  go_enter Try.func18, Try.ntmps18
  go_wp2
  clear hz
  go_loopg [8] 256 (fun k i wr => ∃ j : Nat, j ≤ 256 ∧ k = 256 - j ∧ i = .int .i64 (j : Int) ∧ TabInv w.heap.size lowTab w j wr)
  case atStart =>
    refine ⟨0, by omega, rfl, rfl, ?_, ?_, ?_⟩
    · rw [tabOf_zero]; exact heap_alloc2_new _ _ _
    · exact heap_alloc2_old _ _ _
    · exact ((Below.refl _ _).alloc (Nat.le_refl _) _).alloc (by simp) _
  case round =>
    obtain ⟨j, hj, hk, rfl, hT⟩ := hrel
    have HK := Lib.hid hk; clear hk
    have HT := Lib.hid hT; clear hT
    by_cases hlt : j < 256
    · go_wp2_with (go_at_call 19; refine (lowc_any _ _ hlt).mono ?_; rintro e w' ⟨rfl, rfl⟩)
      go_loopg [7, 15] 8 (fun k v i wr2 => ∃ m : Nat, m ≤ 8 ∧ k = 8 - m ∧ i = .int .i64 (m : Int) ∧ v = .int .u32 ((iter lowBit m (BitVec.ofNat 32 j)).toNat : Int) ∧ wr = wr2)
      case atStart => exact ⟨0, by omega, rfl, rfl, rfl, rfl⟩
      case round =>
        obtain ⟨m, hm, hk, rfl, rfl, rfl⟩ := hrel
        have HK2 := Lib.hid hk; clear hk
        by_cases hlt2 : m < 8
        · go_wp2_with (go_at_call 20; refine (lowb_any _ _).mono ?_; rintro e w' ⟨rfl, rfl⟩)
          go_roundg (8 - (m + 1))
          case measure => have := HK2.out; omega
          case rel => exact ⟨m + 1, by omega, rfl, by go_num, rfl, rfl⟩
        · obtain rfl : m = 8 := by omega
          go_upto_region 10 with fail
          refine wp_region_lit ?_
          go_wp2_with (first | (refine wpList_ixa rfl _ _ 33 rfl Try.underlying33 (sz := 1) (by kernel_rfl) rfl rfl j rfl hlt ?_) | (refine wpList_st rfl 23 _ _ rfl (by kernel_rfl) (g := w.heap.size + 1) (j := j) (v := .int .u32 ((lowTab j).toNat : Int)) rfl (congrArg (fun x => Value.pointer (some x)) (by rw [Nat.mul_one, Addr.add_lit, Nat.zero_add])) rfl HT.out.1 (by rw [tabOf_size]; exact hlt) ?_))
          go_roundg (256 - (j + 1))
          case measure => have := HK.out; omega
          case rel => exact ⟨j + 1, by omega, rfl, by go_num, tab_step HT.out hlt (Nat.le_refl _)⟩
    · obtain rfl : j = 256 := by omega
      go_upto_region 12 with fail
      refine wp_region_lit ?_
      refine wpList_load_row rfl 33 _ rfl (w.heap.size + 1) rfl 33 (tabOf lowTab 256) (0, 0) _ HT.out.1 Try.underlying33 rfl (by kernel_rfl) ?_
      refine wpList_store_row rfl 33 _ _ rfl w.heap.size (tabOf lowTab 256) rfl rfl 33 crcZ HT.out.2.1 (by kernel_rfl) (by rw [tabOf_size]; rfl) (tabOf_one _ _) ?_
      go_wp2
      refine bodyPost_ret (v := .agg (tabOf lowTab 256)) (results_cell_row rfl _ _ w.heap.size 33 _ (0, 0) _ rfl (setRow_heap wr w.heap.size _ _ 33 _ HT.out.2.1) Try.underlying33 rfl (by kernel_rfl)) rfl ⟨rfl, ?_⟩
      exact HT.out.2.2.trans ⟨rfl, rfl, rfl, by simp, fun k hk => setRow_other wr w.heap.size k _ (by omega)⟩

set_option maxRecDepth 100000 in
set_option maxHeartbeats 400000 in
theorem highSteps_any (w : World) :
    Calls Try.prog 18 #[.func (.func 21) #[] #[], .func (.func 22) #[] #[]] w fun e w' => e = .returned (.agg (tabOf highTab 256)) ∧ Below w.heap.size w w' := by
  have hz := zero33
  go_enter Try.func18, Try.ntmps18
  go_wp2
  clear hz
  go_loopg [8] 256 (fun k i wr => ∃ j : Nat, j ≤ 256 ∧ k = 256 - j ∧ i = .int .i64 (j : Int) ∧ TabInv w.heap.size highTab w j wr)
  case atStart =>
    refine ⟨0, by omega, rfl, rfl, ?_, ?_, ?_⟩
    · rw [tabOf_zero]; exact heap_alloc2_new _ _ _
    · exact heap_alloc2_old _ _ _
    · exact ((Below.refl _ _).alloc (Nat.le_refl _) _).alloc (by simp) _
  case round =>
    obtain ⟨j, hj, hk, rfl, hT⟩ := hrel
    have HK := Lib.hid hk; clear hk
    have HT := Lib.hid hT; clear hT
    by_cases hlt : j < 256
    · go_wp2_with (go_at_call 21; refine (highc_any _ _ hlt).mono ?_; rintro e w' ⟨rfl, rfl⟩)
      go_loopg [7, 15] 8 (fun k v i wr2 => ∃ m : Nat, m ≤ 8 ∧ k = 8 - m ∧ i = .int .i64 (m : Int) ∧ v = .int .u32 ((iter highBit m (BitVec.ofNat 32 j <<< 24)).toNat : Int) ∧ wr = wr2)
      case atStart => exact ⟨0, by omega, rfl, rfl, rfl, rfl⟩
      case round =>
        obtain ⟨m, hm, hk, rfl, rfl, rfl⟩ := hrel
        have HK2 := Lib.hid hk; clear hk
        by_cases hlt2 : m < 8
        · go_wp2_with (go_at_call 22; refine (highb_any _ _).mono ?_; rintro e w' ⟨rfl, rfl⟩)
          go_roundg (8 - (m + 1))
          case measure => have := HK2.out; omega
          case rel => exact ⟨m + 1, by omega, rfl, by go_num, rfl, rfl⟩
        · obtain rfl : m = 8 := by omega
          go_upto_region 10 with fail
          refine wp_region_lit ?_
          go_wp2_with (first | (refine wpList_ixa rfl _ _ 33 rfl Try.underlying33 (sz := 1) (by kernel_rfl) rfl rfl j rfl hlt ?_) | (refine wpList_st rfl 23 _ _ rfl (by kernel_rfl) (g := w.heap.size + 1) (j := j) (v := .int .u32 ((highTab j).toNat : Int)) rfl (congrArg (fun x => Value.pointer (some x)) (by rw [Nat.mul_one, Addr.add_lit, Nat.zero_add])) rfl HT.out.1 (by rw [tabOf_size]; exact hlt) ?_))
          go_roundg (256 - (j + 1))
          case measure => have := HK.out; omega
          case rel => exact ⟨j + 1, by omega, rfl, by go_num, tab_step HT.out hlt (Nat.le_refl _)⟩
    · obtain rfl : j = 256 := by omega
      go_upto_region 12 with fail
      refine wp_region_lit ?_
      refine wpList_load_row rfl 33 _ rfl (w.heap.size + 1) rfl 33 (tabOf highTab 256) (0, 0) _ HT.out.1 Try.underlying33 rfl (by kernel_rfl) ?_
      refine wpList_store_row rfl 33 _ _ rfl w.heap.size (tabOf highTab 256) rfl rfl 33 crcZ HT.out.2.1 (by kernel_rfl) (by rw [tabOf_size]; rfl) (tabOf_one _ _) ?_
      go_wp2
      refine bodyPost_ret (v := .agg (tabOf highTab 256)) (results_cell_row rfl _ _ w.heap.size 33 _ (0, 0) _ rfl (setRow_heap wr w.heap.size _ _ 33 _ HT.out.2.1) Try.underlying33 rfl (by kernel_rfl)) rfl ⟨rfl, ?_⟩
      exact HT.out.2.2.trans ⟨rfl, rfl, rfl, by simp, fun k hk => setRow_other wr w.heap.size k _ (by omega)⟩

end Go.Proofs.Ytglhkkcogdbidaa
