/- sufsort.Ends, sufsort.Rotations, and the document's texts: the walks. -/
import Derived.Test.YtlokjgmfhbgmcaaSufE
import Derived.Test.YtlokjgmfhbgmcaaSufG
namespace Go.Proofs.Ytlokjgmfhbgmcaa
set_option linter.unusedSimpArgs false
set_option linter.unusedVariables false
open Go.RowKit

theorem size8 : (Try.prog.info? 5).map (·.size) = some 1 := by kernel_rfl
theorem sizeI : (Try.prog.info? 3).map (·.size) = some 1 := by kernel_rfl

set_option maxHeartbeats 1000000 in
theorem end_law (w : World) (ad : Option Addr) (n cap : Nat) (b : List UInt8) (i : Nat) (hb : Rd w 1 ad n cap (B8 b)) (hi : i ≤ n) :
    Calls Try.prog 17 #[.slice ad n cap, .int .i64 (i : Int)] w fun e w' => e = .returned (.string (bstr (txt b false i))) ∧ w = w' := by
  have hcut := fun W => run_cut (P := Try.prog) Try.underlying22 size8 hb i hi W
  have hstr := run_str (P := Try.prog) (dst := 9) Try.underlying22 Try.underlying5 Try.underlying9 (hb.from8 i hi)
  go_enter Try.func17, Try.ntmps17
  go_wp2
  go_ret
  simp [txt]

set_option maxHeartbeats 1000000 in
theorem rotation_law (w : World) (ad : Option Addr) (n cap : Nat) (b : List UInt8) (i : Nat) (hb : Rd w 1 ad n cap (B8 b)) (hi : i ≤ n) :
    Calls Try.prog 18 #[.slice ad n cap, .int .i64 (i : Int)] w fun e w' => e = .returned (.string (bstr (txt b true i))) ∧ Below w.heap.size w w' := by
  have hic : (i : Int) ≤ (cap : Int) := by have := hb.ncap; omega
  have hlen := hb.len8
  have hmx := hb.capM
  have hncap := hb.ncap
  have hcut := fun W => run_cut (P := Try.prog) Try.underlying22 size8 hb i hi W
  have hstr := run_str (P := Try.prog) (dst := 9) Try.underlying22 Try.underlying5 Try.underlying9 ((hb.drew).from8 i hi)
  have hstr2 := run_str (P := Try.prog) (dst := 9) Try.underlying22 Try.underlying5 Try.underlying9 ((hb.drew).to8 i hi)
  have hadd : ¬ 9223372036854775807 < (bstr (b.drop i)).size + (bstr (b.take i)).size := by
    rw [bstr_size, bstr_size]; simp [maxLen] at *; omega
  go_enter Try.func18, Try.ntmps18
  go_upto_region 1 with fail
  refine stl_region (by kernel_rfl) (by kernel_rfl) ?_
  refine stl_wp (by kernel_rfl) (by kernel_rfl) ?_; intro K hK; go_simp; refine hK _ ?_; clear hK K; (try simp only [Act.put, List.setIfInBounds_toArray, List.set_cons_zero, List.set_cons_succ, Array.setIfInBounds_toArray])
  refine stl_wp (by kernel_rfl) (by kernel_rfl) ?_; intro K hK; go_simp; refine hK _ ?_; clear hK K; (try simp only [Act.put, List.setIfInBounds_toArray, List.set_cons_zero, List.set_cons_succ, Array.setIfInBounds_toArray])
  refine stl_wp (by kernel_rfl) (by kernel_rfl) ?_; intro K hK; go_simp; refine hK _ ?_; clear hK K; (try simp only [Act.put, List.setIfInBounds_toArray, List.set_cons_zero, List.set_cons_succ, Array.setIfInBounds_toArray])
  refine stl_wp (by kernel_rfl) (by kernel_rfl) ?_; intro K hK; go_simp; refine hK _ ?_; clear hK K; (try simp only [Act.put, List.setIfInBounds_toArray, List.set_cons_zero, List.set_cons_succ, Array.setIfInBounds_toArray])
  refine stl_wp (by kernel_rfl) (by kernel_rfl) ?_; intro K hK; go_simp; refine hK _ ?_; clear hK K; (try simp only [Act.put, List.setIfInBounds_toArray, List.set_cons_zero, List.set_cons_succ, Array.setIfInBounds_toArray])
  refine stl_wp (by kernel_rfl) (by kernel_rfl) ?_; intro K hK; go_simp; refine hK _ ?_; clear hK K; (try simp only [Act.put, List.setIfInBounds_toArray, List.set_cons_zero, List.set_cons_succ, Array.setIfInBounds_toArray])
  refine stl_wp (by kernel_rfl) (by kernel_rfl) ?_; intro K hK; go_simp; refine hK _ ?_; clear hK K; (try simp only [Act.put, List.setIfInBounds_toArray, List.set_cons_zero, List.set_cons_succ, Array.setIfInBounds_toArray])
  refine stl_wp (by kernel_rfl) (by kernel_rfl) ?_; intro K hK; go_simp; refine hK _ ?_; clear hK K; (try simp only [Act.put, List.setIfInBounds_toArray, List.set_cons_zero, List.set_cons_succ, Array.setIfInBounds_toArray])
  refine stl_wp (by kernel_rfl) (by kernel_rfl) ?_; intro K hK; go_simp; refine hK _ ?_; clear hK K; (try simp only [Act.put, List.setIfInBounds_toArray, List.set_cons_zero, List.set_cons_succ, Array.setIfInBounds_toArray])
  refine stl_wp (by kernel_rfl) (by kernel_rfl) ?_; intro K hK; go_simp; refine hK _ ?_; clear hK K; (try simp only [Act.put, List.setIfInBounds_toArray, List.set_cons_zero, List.set_cons_succ, Array.setIfInBounds_toArray])
  refine stl_nil ?_
  go_wp2_with fail
  go_ret
  exact ⟨by simp [txt, bstr_app], (Below.refl _ _).drew⟩

set_option maxHeartbeats 1000000 in
theorem endnext_law (W : World) (B : Nat) (ad : Option Addr) (n cap i k : Nat) (b : List UInt8) (hB : W.cell? ⟨B, 0, none⟩ = some (.slice ad n cap)) (hl : b.length = n) (hn : n ≤ 100000) (hi : i < n) (hk : k ≤ 400000) :
    Calls Try.prog 23 #[.int .i64 (i : Int), .int .i64 (k : Int), .pointer (some ⟨B, 0, none⟩)] W fun e W' => e = .returned (.int .i64 (nxI (nxt b false) i k)) ∧ W = W' := by
  subst hl
  by_cases h : i + k < b.length
  · have h' : (i : Int) + (k : Int) < (b.length : Int) := by omega
    go_enter Try.func23, Try.ntmps23
    go_wp2
    go_ret
    simp [nxI, nxt, h]
  · have h' : ¬ (i : Int) + (k : Int) < (b.length : Int) := by omega
    go_enter Try.func23, Try.ntmps23
    go_wp2
    go_ret
    simp [nxI, nxt, h]

set_option maxHeartbeats 1000000 in
theorem ends_law (w : World) (ad : Option Addr) (n cap : Nat) (b : List UInt8) (hb : Rd w 1 ad n cap (B8 b)) (hn : n ≤ 100000) :
    Calls Try.prog 15 #[.slice ad n cap] w fun e w' =>
      ∃ g o, e = .returned (.slice (some ⟨g, 0, none⟩) n n) ∧ Own w' 3 1 w.heap.size (some ⟨g, 0, none⟩) n n (N64 o) ∧ Ordered b false o ∧ Below w.heap.size w w' := by
  have hl := hb.len8
  have HL := Lib.hid hl
  have hb1 : Below w.heap.size w (w.alloc (.cells #[.slice ad n cap] 22)) := (Below.refl _ _).alloc (Nat.le_refl _) _
  have hs := sorted_law (w.alloc (.cells #[.slice ad n cap] 22)) ad n cap b 23 #[.pointer (some ⟨w.heap.size, 0, none⟩)] (nxt b false) (sy b false) (hb.below hb1) hn
    (fun i k hi hk W hW => endnext_law W w.heap.size ad n cap i k b (cell_below (Boxed.new w 22 (.slice ad n cap)).cell hW) hl hn hi hk)
    (by rw [← hl]; exact nxt_ok b false) (fun i hi => sy_zero b false i (by omega)) (fun args w => rfl)
  have HS := Lib.hid hs; clear hs hl
  go_enter Try.func15, Try.ntmps15
  go_wp2_with fail
  refine HS.out.mono ?_
  rintro e w2 ⟨g, o, k, rfl, og, ord, hk, b2⟩
  have hk' : b.length ≤ k := by rw [HL.out]; omega
  have ord' : Ordered b false o := Ordered.of b false (by rw [HL.out]; exact ord) hk'
  have og' := og.lower (lo' := w.heap.size) (by simp)
  have b2' := hb1.trans (b2.mono (by simp))
  clear og ord b2 hb1
  go_wp2_with fail
  go_ret
  exact ⟨g, o, rfl, og', ord', b2'⟩

end Go.Proofs.Ytlokjgmfhbgmcaa
