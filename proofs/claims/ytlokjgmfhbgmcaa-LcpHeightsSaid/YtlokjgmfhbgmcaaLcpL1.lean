/- The law LcpHeights, walked. -/
import Derived.Test.YtlokjgmfhbgmcaaLcpE
namespace Go.Proofs.Ytlokjgmfhbgmcaa
set_option linter.unusedSimpArgs false
set_option linter.unusedVariables false
open Go.RowKit

set_option maxRecDepth 100000 in
set_option maxHeartbeats 4000000 in
theorem lcpHeights_law (w : World) (ad : Option Addr) (n cap : Nat) (b : List UInt8) (hb : Rd w 1 ad n cap (B8 b)) (rd : Option Addr) (m rc : Nat) (xs : List Int) (hx : Rd w 1 rd m rc (I64 xs)) (hg : ∀ z ∈ xs, -9223372036854775808 ≤ z ∧ z ≤ 9223372036854775807) :
    Calls Try.prog 3 #[.slice ad n cap, .slice rd m rc] w fun e w' => e = .returned (.bool true) ∧ Below w.heap.size w w' := by
  clear hg
  by_cases hn : 300 < n
  · go_enter Try.func3, Try.ntmps3
    go_wp2
    go_ret
    exact ⟨rfl, Below.refl _ _⟩
  by_cases hm : 400 < m
  · go_enter Try.func3, Try.ntmps3
    go_wp2
    go_ret
    exact ⟨rfl, Below.refl _ _⟩
  obtain ⟨o, ho⟩ := Ordered.exists b false
  go_enter Try.func3, Try.ntmps3
  go_wp2_with fail
  refine (orderE_law _ _ _ _ b hb (by omega)).mono ?_
  rintro e w1 ⟨a1, k1, o1, rfl, own1, ord1, b1⟩
  obtain rfl := ho.unique ord1
  clear ord1
  have r1 := own1.rd
  go_wp2_with (refine wpList_clone rfl _ _ _ rfl tI rfl rfl r1 (by unfold maxLen; omega) (by omega) ?_; intro a2 k2 w2 own2 b2 hs2)
  clear hs2
  have c2 := b1.trans (b2.mono b1.size)
  have own12 := own1.below b2
  have hb2 := hb.below c2
  have hx2 := hx.below c2
  have r2 := own2.rd
  rw [N64_I64] at r2
  clear r1 own1 b1 b2
  refine (heights_hs _ _ _ _ b hb2 (by omega) _ _ _ _ r2 o ho).mono ?_
  rintro e w3 ⟨a3, m3, k3, e3, h3, rfl, own3, s3, b3⟩
  have c3 := c2.trans (b3.mono c2.size)
  have hb3 := hb.below c3
  have own13 := own12.below b3
  have own23 := own2.below b3
  have r13 := own13.rd
  rw [N64_I64] at r13
  clear own12 own2 b3 c2 hb2 hx2 r2
  go_wp2_with fail
  refine (refHeights_hs _ _ _ _ b hb3 (by omega) _ _ _ _ r13 o ho).mono ?_
  rintro e w4 ⟨a4, m4, k4, e4, h4, rfl, own4, s4, b4⟩
  obtain ⟨rfl, rfl⟩ := s3.unique s4
  have c4 := c3.trans (b4.mono c3.size)
  have hb4 := hb.below c4
  have hx4 := hx.below c4
  have own14 := own13.below b4
  have own24 := own23.below b4
  have own34 := own3.below b4
  clear own13 own23 own3 b4 c3 hb3 r13 s3 s4
  go_wp2_with fail
  refine (heights_hs _ _ _ _ b hb4 (by omega) _ _ _ _ hx4 o ho).mono ?_
  rintro e w5 ⟨a5, m5, k5, e5, h5, rfl, own5, s5, b5⟩
  have c5 := c4.trans (b5.mono c4.size)
  have hb5 := hb.below c5
  have hx5 := hx.below c5
  have own15 := own14.below b5
  have own25 := own24.below b5
  have own35 := own34.below b5
  have own45 := own4.below b5
  clear own14 own24 own34 own4 b5 c4 hb4 hx4
  go_wp2_with fail
  refine (refHeights_hs _ _ _ _ b hb5 (by omega) _ _ _ _ hx5 o ho).mono ?_
  rintro e w6 ⟨a6, m6, k6, e6, h6, rfl, own6, s6, b6⟩
  obtain ⟨rfl, rfl⟩ := s5.unique s6
  have c6 := c5.trans (b6.mono c5.size)
  have own16 := own15.below b6
  have own26 := own25.below b6
  have own36 := own35.below b6
  have own46 := own45.below b6
  have own56 := own5.below b6
  clear own15 own25 own35 own45 own5 b6 c5 hb5 hx5 s5 s6
  go_wp2_with fail
  refine (same_nat _ _ _ _ _ _ _ _ _ own36.rd own46.rd rfl).mono ?_
  rintro e w7 ⟨rfl, b7⟩
  have c7 := c6.trans (b7.mono c6.size)
  have own17 := own16.below b7
  have own27 := own26.below b7
  have own57 := own56.below b7
  have own67 := own6.below b7
  clear own16 own26 own36 own46 own56 own6 b7 c6
  go_wp2_with fail
  refine (same_nat _ _ _ _ _ _ _ _ _ own27.rd own17.rd rfl).mono ?_
  rintro e w8 ⟨rfl, b8⟩
  have c8 := c7.trans (b8.mono c7.size)
  have own58 := own57.below b8
  have own68 := own67.below b8
  clear own17 own27 own57 own67 b8 c7
  go_wp2_with fail
  refine (same_nat _ _ _ _ _ _ _ _ _ own58.rd own68.rd rfl).mono ?_
  rintro e w9 ⟨rfl, b9⟩
  have c9 := c8.trans (b9.mono c8.size)
  clear own58 own68 b9 c8
  go_wp2_with fail
  refine (known_any _).mono ?_
  rintro e w10 ⟨rfl, b10⟩
  have c10 := c9.trans (b10.mono c9.size)
  clear c9 b10
  go_wp2_with fail
  go_ret
  exact ⟨rfl, c10⟩
end Go.Proofs.Ytlokjgmfhbgmcaa
