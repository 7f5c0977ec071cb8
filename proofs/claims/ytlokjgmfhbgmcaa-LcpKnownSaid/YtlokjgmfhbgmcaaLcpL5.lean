/- The law LcpKnown, walked. -/
import Derived.Test.YtlokjgmfhbgmcaaLcpE
namespace Go.Proofs.Ytlokjgmfhbgmcaa
set_option linter.unusedSimpArgs false
set_option linter.unusedVariables false
open Go.RowKit

theorem zeros_ends (n : Nat) : Ordered (List.replicate n 0) false (List.range n).reverse := by
  refine Ordered.mk' _ _ _ (fun x => by simp) (by simp) ?_
  rw [List.pairwise_reverse]
  refine List.pairwise_lt_range.imp_of_mem fun {y x} hy hx h => ?_
  have hx := List.mem_range.1 hx
  left
  have e : ∀ i, txt (List.replicate n (0 : UInt8)) false i = List.replicate (n - i) 0 := fun i => by simp [txt]
  rw [e, e, less_iff]
  refine ⟨n - x, fun s hs => ?_, ?_⟩
  · rw [sgn_in _ _ (by simp; omega), sgn_in _ _ (by simp; omega)]
    congr 2
    simp [at8, List.getD_eq_getElem?_getD, List.getElem?_replicate, (by omega : s < n - x), (by omega : s < n - y)]
  · rw [sgn_out _ _ (by simp), sgn_in _ _ (by simp; omega)]; omega
theorem atN_rev (n i : Nat) (h : i < n) : atN (List.range n).reverse i = n - 1 - i := by
  have h2 : i < (List.range n).reverse.length := by simpa using h
  rw [atN_get _ _ h2, List.getElem_reverse]; simp
theorem zeros_hgt (n p : Nat) (hp : p < n) : hgt (List.replicate n 0) (List.range n).reverse p = p := by
  unfold hgt
  by_cases h0 : p = 0
  · rw [if_pos h0, h0]
  rw [if_neg h0, atN_rev _ _ (by omega), atN_rev _ _ hp]
  have hd : Dif (List.replicate n 0) (n - 1 - (p - 1)) (n - 1 - p) p := by
    refine ⟨fun s hs => ?_, ?_⟩
    · rw [sgn_in _ _ (by simp; omega), sgn_in _ _ (by simp; omega)]
      congr 2
      simp [at8, List.getD_eq_getElem?_getD, List.getElem?_replicate, (by omega : n - 1 - (p - 1) + s < n), (by omega : n - 1 - p + s < n)]
    · rw [sgn_out _ _ (by simp; omega), sgn_in _ _ (by simp; omega)]; omega
  exact hd.com.eq
theorem B8_zeros (n : Nat) : List.replicate n (Value.int .u8 0) = B8 (List.replicate n 0) := by simp [B8]
theorem nil_ends : Ordered [] false [] := Ordered.mk' _ _ _ (fun x => by simp) rfl (by decide)

set_option maxRecDepth 100000 in
set_option maxHeartbeats 4000000 in
theorem lcpKnown_law (w : World) : Calls Try.prog 7 #[] w fun e w' => e = .returned (.bool true) ∧ Below w.heap.size w w' := by
  have kc := fun (w : World) (C : Array Value) (n c : Nat) => Lib.run_convert_bytes_const (P := Try.prog) w 22 5 C n c Try.underlying22 Try.underlying5
  have KC := Lib.hid kc; clear kc
  go_enter Try.func7, Try.ntmps7
  go_wp2_with (refine wpList_mk rfl _ _ _ rfl elB rfl rfl 300 rfl rfl rfl rfl (by decide) (by decide) ?_; intro w1 o1 c1 s1; clear s1)
  rw [B8_zeros] at o1
  refine (ends_law _ _ _ _ _ o1.rd (by omega)).mono ?_
  rintro e w2 ⟨g2, o, rfl, own2, ord, b2⟩
  obtain rfl := ord.unique (zeros_ends 300)
  have c2 := c1.trans (b2.mono c1.size)
  have hb2 := o1.rd.below b2
  have r2 := own2.rd
  rw [N64_I64] at r2
  clear c1 b2 o1
  go_wp2_with fail
  refine (heights_hs _ _ _ _ _ hb2 (by omega) _ _ _ _ r2 _ ord).mono ?_
  rintro e w3 ⟨a3, m3, k3, e3, h3, rfl, own3, s3, b3⟩
  obtain ⟨rfl, rfl⟩ := Hs.unique (.inr ⟨rfl, rfl, rfl⟩) s3
  have hm3 := own3.rd.lenN
  rw [hgtL_len, List.length_replicate] at hm3
  subst hm3
  have c3 := c2.trans (b3.mono c2.size)
  have H3 := Lib.hid own3; clear own3
  clear c2 b3 own2 r2 hb2 s3 ord
  go_wp2_with fail
  go_loopg [5] 300 (fun k i wr => ∃ j : Nat, j ≤ 300 ∧ k = 300 - j ∧ i = .int .i64 (j : Int) ∧ Below w3.heap.size w3 wr)
  case atStart => exact ⟨0, Nat.zero_le _, by simp, rfl, Below.refl _ _⟩
  case round =>
    obtain ⟨j, hj, rfl, rfl, hbi⟩ := hrel
    rename World => wi
    by_cases hlt : j < 300
    · obtain ⟨nh, ch⟩ := (H3.out.below hbi).rd.getN hlt
      rw [hgtL, atN_row _ _ _ (by rw [List.length_replicate]; exact hlt), zeros_hgt _ _ hlt] at ch
      have h1 : (j : Int) < 300 := by omega
      go_wp2_with fail
      go_roundg (300 - (j + 1))
      case measure => omega
      case rel => exact ⟨j + 1, by omega, rfl, by simp, hbi⟩
    · obtain rfl : j = 300 := by omega
      have c4 := c3.trans (hbi.mono c3.size)
      have kc := KC.out
      clear c3 hbi
      go_wp2_with fail
      refine (heights_lit wi _ [98, 97, 110, 97, 110, 97] [0, 1, 2, 3, 4, 5] _ ban_ends (by decide) (by decide) 5 [] (.inl ⟨by decide, rfl, rfl⟩)).mono ?_
      rintro e w5 ⟨a5, k5, rfl, o5, b5⟩
      have c5 := c4.trans (b5.mono c4.size)
      clear c4 b5 o5
      go_wp2_with fail
      refine (heights_hs _ _ _ _ [98, 97, 110, 97, 110, 97] (Rd.lit8 w5 _ _ (by decide)) (by decide) none 0 0 [] (Rd.empty _ _) _ ban_ends).mono ?_
      rintro e w6 ⟨a6, m6, k6, e6, h6, rfl, own6, s6, b6⟩
      obtain ⟨rfl, rfl⟩ := Hs.unique (.inl ⟨by decide, rfl, rfl⟩) s6
      have c6 := c5.trans (((Below.refl _ w5).alloc c5.size _).trans (b6.mono (by simp; exact Nat.le_succ_of_le c5.size)))
      clear c5 b6 own6 s6
      go_wp2_with fail
      refine (heights_hs _ none 0 0 [] (Rd.empty _ _) (by decide) none 0 0 [] (Rd.empty _ _) [] nil_ends).mono ?_
      rintro e w7 ⟨a7, m7, k7, e7, h7, rfl, own7, s7, b7⟩
      obtain ⟨rfl, rfl⟩ := Hs.unique (.inr ⟨rfl, rfl, rfl⟩) s7
      have hm7 := own7.rd.lenN
      obtain rfl : 0 = m7 := hm7
      have c7 := c6.trans (b7.mono c6.size)
      clear c6 b7 own7 s7
      go_wp2_with fail
      refine (common_lit w7 [0, 1] 1 1 (by decide) 0 5 (by decide +kernel)).mono ?_
      rintro e w8 ⟨rfl, b8⟩
      have c8 := c7.trans (b8.mono c7.size)
      clear c7 b8
      go_wp2_with fail
      refine (common_lit w8 [0, 1] 0 2 (by decide) 0 5 (by decide +kernel)).mono ?_
      rintro e w9 ⟨rfl, b9⟩
      have c9 := c8.trans (b9.mono c8.size)
      clear c8 b9
      go_wp2_with fail
      refine (common_lit w9 [0, 1] (-1) 1 (by decide) 0 5 (by decide +kernel)).mono ?_
      rintro e w10 ⟨rfl, b10⟩
      have c10 := c9.trans (b10.mono c9.size)
      clear c9 b10
      go_wp2_with fail
      refine (common_lit w10 [0, 1, 3, 0, 0, 2] 4 5 (by decide) 2 0 (by decide +kernel)).mono ?_
      rintro e w11 ⟨rfl, b11⟩
      have c11 := c10.trans (b11.mono c10.size)
      clear c10 b11 kc
      go_wp2_with fail
      refine (known_any _).mono ?_
      rintro e w12 ⟨rfl, b12⟩
      have c12 := c11.trans (b12.mono c11.size)
      clear c11 b12
      go_wp2_with fail
      go_ret
      exact ⟨rfl, c12⟩
end Go.Proofs.Ytlokjgmfhbgmcaa
