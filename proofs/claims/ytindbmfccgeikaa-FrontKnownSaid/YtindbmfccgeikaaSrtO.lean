/- slices.Sort of a slice of bytes that the call owns. -/
import Derived.Test.YtindbmfccgeikaaSrtS
namespace Go.Proofs.Ytindbmfccgeikaa
set_option linter.unusedSimpArgs false
set_option linter.unusedVariables false
open Go.RowKit Go.Sort

def i8 (xs : List UInt8) : List Int := xs.map fun b => (b.toNat : Int)
theorem encB_i8 (xs : List UInt8) : (i8 xs).map encB = B8 xs := by simp [i8, B8]
/-- sorted -/
def srtL (xs : List UInt8) : List UInt8 := xs.mergeSort fun x y => decide (x ≤ y)
theorem srtL_i8 (xs : List UInt8) : (i8 xs).mergeSort (fun x y => decide (x ≤ y)) = i8 (srtL xs) := by
  unfold i8 srtL
  rw [List.map_mergeSort]
  intro a _ b _
  exact decide_eq_decide.2 (by rw [UInt8.le_iff_toNat_le]; omega)
theorem srtL_len (xs : List UInt8) : (srtL xs).length = xs.length := List.length_mergeSort xs

theorem putCells_take (cur : Array Value) (zs : List Int) (h : zs.length ≤ cur.size) : (putCells encB 0 zs.toArray cur).toList.take zs.length = zs.map encB := by
  apply List.ext_getElem?
  intro j
  by_cases hj : j < zs.length
  · rw [List.getElem?_take_of_lt hj, Array.getElem?_toList]
    simp [putCells, hj, show j < cur.size by omega]
  · rw [List.getElem?_take_eq_none (by omega), List.getElem?_eq_none (by simp; omega)]

theorem srt_own (w : World) (lo g n cap : Nat) (xs : List UInt8) (ho : Own w 5 1 lo (some ⟨g, 0, none⟩) n cap (B8 xs)) (hn : n ≤ 1000000) :
    Calls Try.prog 26 #[.slice (some ⟨g, 0, none⟩) n cap] w fun e w' => e = .returned (.tuple #[]) ∧ Own w' 5 1 lo (some ⟨g, 0, none⟩) n cap (B8 (srtL xs)) ∧ w.grownBy w' (some g) := by
  have hl : xs.length = n := by have := ho.1.1; rw [B8_len] at this; omega
  have hil : (i8 xs).length = n := by simp [i8, hl]
  obtain ⟨_, hc⟩ := ho.cases
  rcases hc with ⟨h0, _⟩ | ⟨g', cur, h1, hb, hg, hnc, hcm, hcs, ht⟩
  · cases h0
  cases h1
  have hH : Holds encB w g 0 (i8 xs).toArray := by
    intro j hj
    have hj2 : j < xs.length := by simpa [i8] using hj
    obtain ⟨r1, r2⟩ := ho.read (B8_get xs j hj2)
    rw [Nat.zero_add]
    refine ⟨?_, r2⟩
    rw [r1]
    simp [i8, at8, hj2, List.getD_eq_getElem?_getD]
  have h := srt_Sort_list g 0 cap (i8 xs) w hH (Array.getElem?_eq_some_iff.1 hg).1 (by omega)
  rw [hil, srtL_i8] at h
  refine h.mono ?_
  rintro e w' ⟨rfl, k, os, rfl⟩
  have hgs : g < w.heap.size := (Array.getElem?_eq_some_iff.1 hg).1
  refine ⟨rfl, ⟨⟨by rw [B8_len, srtL_len]; omega, .inr ⟨g, cap, putCells encB 0 (i8 (srtL xs)).toArray cur, rfl, hb, ?_, hnc, hcm, ?_, ?_⟩⟩, B8_one _⟩, ⟨rfl, rfl, rfl, by simp, fun q hq hne => ?_⟩⟩
  · rw [heap_grow_old _ _ (by simpa using hgs)]
    simp [putRow, mapBlock, Sort.ahead, Array.getElem?_modify, hg, onCells]
  · simp [putCells, hcs]
  · have := putCells_take cur (i8 (srtL xs)) (by simp [i8, srtL_len]; omega)
    rw [encB_i8] at this
    rw [← this]
    simp [i8, srtL_len, hl]
  · rw [heap_grow_old _ _ (by simpa using hq)]
    have : g ≠ q := fun e => hne (by rw [e])
    simp [putRow, mapBlock, Sort.ahead, Array.getElem?_modify, this]

set_option maxRecDepth 100000 in
/-- nothing to sort -/
theorem srt_none (w : World) : Calls Try.prog 26 #[.slice none 0 0] w fun e w' => e = .returned (.tuple #[]) ∧ w' = w := by
  have hlen : ∀ W, Calls Try.prog 36 #[.int .u64 0] W fun e w' => e = .returned (.int .i64 0) ∧ w' = W := fun W => srt_bits_Len 0 W (by decide) (by decide)
  have hins : ∀ W, Calls Try.prog 40 #[.slice none 0 0, .int .i64 0, .int .i64 0] W fun e w' => e = .returned (.tuple #[]) ∧ w' = W := fun W => by
    go_enter Try.func40, Try.ntmps40
    go_wp2_with fail
    go_loopg [6] 0 (fun k v wr => v = .int .i64 1 ∧ wr = W)
    case atStart => exact ⟨rfl, rfl⟩
    case round =>
      obtain ⟨rfl, rfl⟩ := hrel
      go_wp2_with fail
      go_end0
      exact ⟨rfl, rfl⟩
  have hpdq : ∀ W, Calls Try.prog 35 #[.slice none 0 0, .int .i64 0, .int .i64 0, .int .i64 0] W fun e w' => e = .returned (.tuple #[]) ∧ w' = W := fun W => by
    go_enter Try.func35, Try.ntmps35
    go_wp2_with fail
    go_loopg [1, 2, 3, 8, 9] 0 (fun k s1 s2 s3 s8 s9 wr => s1 = .int .i64 0 ∧ s2 = .int .i64 0 ∧ s3 = .int .i64 0 ∧ s8 = .bool true ∧ s9 = .bool true ∧ wr = W)
    case atStart => exact ⟨rfl, rfl, rfl, rfl, rfl, rfl⟩
    case round =>
      obtain ⟨rfl, rfl, rfl, rfl, rfl, rfl⟩ := hrel
      go_wp2_with fail
      refine (hins _).mono ?_
      rintro e w2 ⟨rfl, rfl⟩
      go_wp2_with fail
      (try simp only [Exit.inBlock, Exit.then]); refine bodyPost_ret (results_none rfl _ _ _) rfl ?_
      exact ⟨rfl, rfl⟩
  go_enter Try.func26, Try.ntmps26
  go_wp2_with (first
    | (go_at_call 36; refine (hlen _).mono ?_; rintro e w' ⟨rfl, rfl⟩)
    | (go_at_call 35; refine (hpdq _).mono ?_; rintro e w' ⟨rfl, rfl⟩))
  go_end0
  exact ⟨rfl, rfl⟩
end Go.Proofs.Ytindbmfccgeikaa
