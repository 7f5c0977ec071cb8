/- slices.Sort at uint8: the walks put together. -/
import Derived.Sort.AssemblyPlain
import Derived.Test.YtindbmfccgeikaaSrtA
import Derived.Test.YtindbmfccgeikaaSrtA6
import Derived.Test.YtindbmfccgeikaaSrtB3
import Derived.Test.YtindbmfccgeikaaSrtC4
import Derived.Test.YtindbmfccgeikaaSrt7
import Derived.Test.YtindbmfccgeikaaSrt11
import Derived.Test.YtindbmfccgeikaaSrt13
namespace Go.Proofs.Ytindbmfccgeikaa
set_option linter.unusedSimpArgs false
set_option linter.unusedVariables false
open Go.RowKit Go.Sort

theorem srt_callees : Callees8 where
  heap := srt_heapSort
  rev := srt_reverseRange
  ins := srt_insertionSort
  brk := srt_breakPatterns
  piv := srt_choosePivot
  par := srt_partialInsertionSort
  peq := srt_partitionEqualOrdered
  prt := srt_partitionOrdered

theorem srt_plain : Plain13 where
  swo := swo_ltInt
  ins := insertionSort_holds
  par := partialInsertionSort_holds
  prt := partition_holds _
  peq := partitionEqual_holds _
  pdq := pdq_sorts _

set_option maxRecDepth 100000 in
theorem srt_Sort (blk off cap : Nat) (d : Array Int) (w : World) (hH : Holds encB w blk off d) (hblk : blk < w.heap.size) (hsz : d.size < 4611686018427387904) :
    Calls Try.prog 26 #[.slice (some ⟨blk, off, none⟩) d.size cap] w fun e w' => e = .returned (.tuple #[]) ∧ ∃ n os, w' = grow (putRow encB (Sort.ahead w n) blk off (Sort.sort ltInt d)) os := by
  have hk : bitsLen d.size ≤ 62 := (bitsLen_le_iff d.size 62).2 (by omega)
  have hlen : ∀ W, Calls Try.prog 36 #[.int .u64 (d.size : Int)] W fun e w' => e = .returned (.int .i64 (bitsLen d.size : Nat)) ∧ w' = W := fun W => by
    have h := srt_bits_Len (d.size : Int) W (by omega) (by omega)
    rwa [Int.toNat_natCast, bitLen_eq _ (by omega)] at h
  have hpdq := srt_pdqsort srt_callees srt_plain (d.size - 0 + 1) (pdqDepth ltInt d 0 d.size (bitsLen d.size) true true + 6) blk off cap 0 d.size (bitsLen d.size) d w (by omega) (Nat.le_refl _) hH hblk (Nat.zero_le _) (Nat.le_refl _) hsz (by omega) (Or.inl rfl)
  clear hH
  go_enter Try.func26, Try.ntmps26
  go_wp2_with (first
    | (go_at_call 36; refine (hlen _).mono ?_; rintro e w' ⟨rfl, rfl⟩)
    | (go_at_call 35; refine hpdq.mono ?_; rintro e w' ⟨rfl, n, os, rfl⟩))
  go_end0
  exact ⟨rfl, n, os, rfl⟩
theorem srt_Sort_list (blk off cap : Nat) (zs : List Int) (w : World) (hH : Holds encB w blk off zs.toArray) (hblk : blk < w.heap.size) (hsz : zs.length < 4611686018427387904) :
    Calls Try.prog 26 #[.slice (some ⟨blk, off, none⟩) zs.length cap] w fun e w' => e = .returned (.tuple #[]) ∧ ∃ n os, w' = grow (putRow encB (Sort.ahead w n) blk off (zs.mergeSort fun x y => decide (x ≤ y)).toArray) os := by
  have h := srt_Sort blk off cap zs.toArray w hH hblk (by simpa using hsz)
  rw [show Sort.sort ltInt zs.toArray = (zs.mergeSort fun x y => decide (x ≤ y)).toArray by rw [← sortInt zs]] at h
  simpa using h
end Go.Proofs.Ytindbmfccgeikaa
