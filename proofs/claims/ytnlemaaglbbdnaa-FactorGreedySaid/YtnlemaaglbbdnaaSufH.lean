/- sufsort.Ends, sufsort.Rotations, and the document's texts: the walks. -/
import Derived.Test.YtnlemaaglbbdnaaSufE
import Derived.Test.YtnlemaaglbbdnaaSufG
namespace Go.Proofs.Ytnlemaaglbbdnaa
set_option linter.unusedSimpArgs false
set_option linter.unusedVariables false
open Go.RowKit

theorem size8 : (Try.prog.info? 5).map (·.size) = some 1 := by kernel_rfl
theorem sizeI : (Try.prog.info? 3).map (·.size) = some 1 := by kernel_rfl


set_option maxHeartbeats 1000000 in
theorem endnext_law (W : World) (B : Nat) (ad : Option Addr) (n cap i k : Nat) (b : List UInt8) (hB : W.cell? ⟨B, 0, none⟩ = some (.slice ad n cap)) (hl : b.length = n) (hn : n ≤ 100000) (hi : i < n) (hk : k ≤ 400000) :
    Calls Try.prog 29 #[.int .i64 (i : Int), .int .i64 (k : Int), .pointer (some ⟨B, 0, none⟩)] W fun e W' => e = .returned (.int .i64 (nxI (nxt b false) i k)) ∧ W = W' := by
  subst hl
  by_cases h : i + k < b.length
  · have h' : (i : Int) + (k : Int) < (b.length : Int) := by omega
    go_enter Try.func29, Try.ntmps29
    go_wp2
    go_ret
    simp [nxI, nxt, h]
  · have h' : ¬ (i : Int) + (k : Int) < (b.length : Int) := by omega
    go_enter Try.func29, Try.ntmps29
    go_wp2
    go_ret
    simp [nxI, nxt, h]

set_option maxHeartbeats 1000000 in
theorem ends_law (w : World) (ad : Option Addr) (n cap : Nat) (b : List UInt8) (hb : Rd w 1 ad n cap (B8 b)) (hn : n ≤ 100000) :
    Calls Try.prog 19 #[.slice ad n cap] w fun e w' =>
      ∃ g o, e = .returned (.slice (some ⟨g, 0, none⟩) n n) ∧ Own w' 3 1 w.heap.size (some ⟨g, 0, none⟩) n n (N64 o) ∧ Ordered b false o ∧ Below w.heap.size w w' := by
  have hl := hb.len8
  have HL := Lib.hid hl
  have hb1 : Below w.heap.size w (w.alloc (.cells #[.slice ad n cap] 22)) := (Below.refl _ _).alloc (Nat.le_refl _) _
  have hs := sorted_law (w.alloc (.cells #[.slice ad n cap] 22)) ad n cap b 29 #[.pointer (some ⟨w.heap.size, 0, none⟩)] (nxt b false) (sy b false) (hb.below hb1) hn
    (fun i k hi hk W hW => endnext_law W w.heap.size ad n cap i k b (cell_below (Boxed.new w 22 (.slice ad n cap)).cell hW) hl hn hi hk)
    (by rw [← hl]; exact nxt_ok b false) (fun i hi => sy_zero b false i (by omega)) (fun args w => rfl)
  have HS := Lib.hid hs; clear hs hl
  go_enter Try.func19, Try.ntmps19
  go_wp2_with fail
  refine HS.out.mono ?_
  rintro e w2 ⟨g, o, k, rfl, og, ord, hk, b2⟩
  have hk' : b.length ≤ k := by rw [HL.out]; omega
  have ord' : Ordered b false o := Ordered.of b false (by rw [HL.out]; exact ord) hk'
  have og' := og.lower (lo' := w.heap.size) (by simp)
  have b2' := hb1.trans (b2.mono (by simp))
  clear og ord b2 hb1
  go_wp2_with fail
  go_ret
  exact ⟨g, o, rfl, og', ord', b2'⟩

end Go.Proofs.Ytnlemaaglbbdnaa
