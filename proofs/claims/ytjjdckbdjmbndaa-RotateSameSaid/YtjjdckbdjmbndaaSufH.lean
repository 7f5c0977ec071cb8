/- sufsort.Ends, sufsort.Rotations, and the document's texts: the walks. -/
import Derived.Test.YtjjdckbdjmbndaaSufE
import Derived.Test.YtjjdckbdjmbndaaSufG
namespace Go.Proofs.Ytjjdckbdjmbndaa
set_option linter.unusedSimpArgs false
set_option linter.unusedVariables false
open Go.RowKit

theorem size8 : (Try.prog.info? 5).map (·.size) = some 1 := by kernel_rfl
theorem sizeI : (Try.prog.info? 3).map (·.size) = some 1 := by kernel_rfl

set_option maxHeartbeats 1000000 in
theorem end_law (w : World) (ad : Option Addr) (n cap : Nat) (b : List UInt8) (i : Nat) (hb : Rd w 1 ad n cap (B8 b)) (hi : i ≤ n) :
    Calls Try.prog 22 #[.slice ad n cap, .int .i64 (i : Int)] w fun e w' => e = .returned (.string (bstr (txt b false i))) ∧ w = w' := by
  have hcut := fun W => run_cut (P := Try.prog) Try.underlying22 size8 hb i hi W
  have hstr := run_str (P := Try.prog) (dst := 9) Try.underlying22 Try.underlying5 Try.underlying9 (hb.from8 i hi)
  go_enter Try.func22, Try.ntmps22
  go_wp2
  go_ret
  simp [txt]

set_option maxHeartbeats 1000000 in
theorem rotation_law (w : World) (ad : Option Addr) (n cap : Nat) (b : List UInt8) (i : Nat) (hb : Rd w 1 ad n cap (B8 b)) (hi : i ≤ n) :
    Calls Try.prog 16 #[.slice ad n cap, .int .i64 (i : Int)] w fun e w' => e = .returned (.string (bstr (txt b true i))) ∧ Below w.heap.size w w' := by
  have hic : (i : Int) ≤ (cap : Int) := by have := hb.ncap; omega
  have hlen := hb.len8
  have hmx := hb.capM
  have hncap := hb.ncap
  have hcut := fun W => run_cut (P := Try.prog) Try.underlying22 size8 hb i hi W
  have hstr := run_str (P := Try.prog) (dst := 9) Try.underlying22 Try.underlying5 Try.underlying9 ((hb.drew).from8 i hi)
  have hstr2 := run_str (P := Try.prog) (dst := 9) Try.underlying22 Try.underlying5 Try.underlying9 ((hb.drew).to8 i hi)
  have hadd : ¬ 9223372036854775807 < (bstr (b.drop i)).size + (bstr (b.take i)).size := by
    rw [bstr_size, bstr_size]; simp [maxLen] at *; omega
  go_enter Try.func16, Try.ntmps16
  go_upto_region 1 with fail
  refine stl_region (by kernel_rfl) (by kernel_rfl) ?_
  refine stl_wp (by kernel_rfl) (by kernel_rfl) ?_; intro K hK; go_simp; refine hK _ ?_; clear hK K; (try simp only [Act.put, List.setIfInBounds_toArray, List.set_cons_zero, List.set_cons_succ, Array.setIfInBounds_toArray])
  refine stl_wp (by kernel_rfl) (by kernel_rfl) ?_; intro K hK; go_simp; refine hK _ ?_; clear hK K; (try simp only [Act.put, List.setIfInBounds_toArray, List.set_cons_zero, List.set_cons_succ, Array.setIfInBounds_toArray])
  refine stl_wp (by kernel_rfl) (by kernel_rfl) ?_; intro K hK; go_simp; refine hK _ ?_; clear hK K; (try simp only [Act.put, List.setIfInBounds_toArray, List.set_cons_zero, List.set_cons_succ, Array.setIfInBounds_toArray])
  refine stl_wp (by kernel_rfl) (by kernel_rfl) ?_; intro K hK; go_simp; refine hK _ ?_; clear hK K; (try simp only [Act.put, List.setIfInBounds_toArray, List.set_cons_zero, List.set_cons_succ, Array.setIfInBounds_toArray])
  refine stl_wp (by kernel_rfl) (by kernel_rfl) ?_; intro K hK; go_simp; refine hK _ ?_; clear hK K; (try simp only [Act.put, List.setIfInBounds_toArray, List.set_cons_zero, List.set_cons_succ, Array.setIfInBounds_toArray])
  refine stl_wp (by kernel_rfl) (by kernel_rfl) ?_; intro K hK; go_simp; refine hK _ ?_; clear hK K; (try simp only [Act.put, List.setIfInBounds_toArray, List.set_cons_zero, List.set_cons_succ, Array.setIfInBounds_toArray])
  refine stl_wp (by kernel_rfl) (by kernel_rfl) ?_; intro K hK; go_simp; refine hK _ ?_; clear hK K; (try simp only [Act.put, List.setIfInBounds_toArray, List.set_cons_zero, List.set_cons_succ, Array.setIfInBounds_toArray])
  refine stl_wp (by kernel_rfl) (by kernel_rfl) ?_; intro K hK; go_simp; refine hK _ ?_; clear hK K; (try simp only [Act.put, List.setIfInBounds_toArray, List.set_cons_zero, List.set_cons_succ, Array.setIfInBounds_toArray])
  refine stl_wp (by kernel_rfl) (by kernel_rfl) ?_; intro K hK; go_simp; refine hK _ ?_; clear hK K; (try simp only [Act.put, List.setIfInBounds_toArray, List.set_cons_zero, List.set_cons_succ, Array.setIfInBounds_toArray])
  refine stl_wp (by kernel_rfl) (by kernel_rfl) ?_; intro K hK; go_simp; refine hK _ ?_; clear hK K; (try simp only [Act.put, List.setIfInBounds_toArray, List.set_cons_zero, List.set_cons_succ, Array.setIfInBounds_toArray])
  refine stl_nil ?_
  go_wp2_with fail
  go_ret
  exact ⟨by simp [txt, bstr_app], (Below.refl _ _).drew⟩

set_option maxHeartbeats 1000000 in
theorem rotnext_law (W : World) (B : Nat) (ad : Option Addr) (n cap i k : Nat) (b : List UInt8) (hB : W.cell? ⟨B, 0, none⟩ = some (.slice ad n cap)) (hl : b.length = n) (hn : n ≤ 100000) (hi : i < n) (hk : k ≤ 400000) :
    Calls Try.prog 21 #[.int .i64 (i : Int), .int .i64 (k : Int), .pointer (some ⟨B, 0, none⟩)] W fun e W' => e = .returned (.int .i64 (nxI (nxt b true) i k)) ∧ W = W' := by
  subst hl
  have h0 : ¬ (b.length : Int) = 0 := by omega
  have hm : ((i : Int) + (k : Int)).tmod (b.length : Int) = (((i + k) % b.length : Nat) : Int) := by
    rw [show (i : Int) + (k : Int) = ((i + k : Nat) : Int) by omega]; rfl
  have hlt : (i + k) % b.length < b.length := Nat.mod_lt _ (by omega)
  go_enter Try.func21, Try.ntmps21
  go_wp2
  go_ret
  simp [nxI, nxt]

set_option maxHeartbeats 1000000 in
theorem rotations_law (w : World) (ad : Option Addr) (n cap : Nat) (b : List UInt8) (hb : Rd w 1 ad n cap (B8 b)) (hn : n ≤ 100000) :
    Calls Try.prog 14 #[.slice ad n cap] w fun e w' =>
      ∃ g o, e = .returned (.slice (some ⟨g, 0, none⟩) n n) ∧ Own w' 3 1 w.heap.size (some ⟨g, 0, none⟩) n n (N64 o) ∧ Ordered b true o ∧ Below w.heap.size w w' := by
  have hl := hb.len8
  have HL := Lib.hid hl
  have hb1 : Below w.heap.size w (w.alloc (.cells #[.slice ad n cap] 22)) := (Below.refl _ _).alloc (Nat.le_refl _) _
  have hs := sorted_law (w.alloc (.cells #[.slice ad n cap] 22)) ad n cap b 21 #[.pointer (some ⟨w.heap.size, 0, none⟩)] (nxt b true) (sy b true) (hb.below hb1) hn
    (fun i k hi hk W hW => rotnext_law W w.heap.size ad n cap i k b (cell_below (Boxed.new w 22 (.slice ad n cap)).cell hW) hl hn hi hk)
    (by rw [← hl]; exact nxt_ok b true) (fun i hi => sy_zero b true i (by omega)) (fun args w => rfl)
  have HS := Lib.hid hs; clear hs hl
  go_enter Try.func14, Try.ntmps14
  go_wp2_with fail
  refine HS.out.mono ?_
  rintro e w2 ⟨g, o, k, rfl, og, ord, hk, b2⟩
  have hk' : b.length ≤ k := by rw [HL.out]; omega
  have ord' : Ordered b true o := Ordered.of b true (by rw [HL.out]; exact ord) hk'
  have og' := og.lower (lo' := w.heap.size) (by simp)
  have b2' := hb1.trans (b2.mono (by simp))
  clear og ord b2 hb1
  go_wp2_with fail
  go_ret
  exact ⟨g, o, rfl, og', ord', b2'⟩
end Go.Proofs.Ytjjdckbdjmbndaa
