/- The law SufsortKnown, walked. -/
import Derived.Test.YtfgcjkknacpphaaSufL5
namespace Go.Proofs.Ytfgcjkknacpphaa
set_option linter.unusedSimpArgs false
set_option linter.unusedVariables false
open Go.RowKit

theorem zeros_ends (n : Nat) : Ordered (List.replicate n 0) false (List.range n).reverse := by
  refine Ordered.mk' _ _ _ (fun x => by simp) (by simp) ?_
  rw [List.pairwise_reverse]
  refine List.pairwise_lt_range.imp_of_mem fun {y x} hy hx h => ?_
  have hx := List.mem_range.1 hx
  left
  have e : ∀ i, txt (List.replicate n (0 : UInt8)) false i = List.replicate (n - i) 0 := fun i => by simp [txt]
  rw [e, e, less_iff]
  refine ⟨n - x, fun s hs => ?_, ?_⟩
  · rw [sgn_in _ _ (by simp; omega), sgn_in _ _ (by simp; omega)]
    congr 2
    simp [at8, List.getD_eq_getElem?_getD, List.getElem?_replicate, (by omega : s < n - x), (by omega : s < n - y)]
  · rw [sgn_out _ _ (by simp), sgn_in _ _ (by simp; omega)]; omega
theorem zeros_rot (n : Nat) : Ordered (List.replicate n 0) true (List.range n) := by
  refine Ordered.mk' _ _ _ (fun x => by simp) (by simp) ?_
  refine List.pairwise_lt_range.imp_of_mem fun {x y} hx hy h => ?_
  have hx := List.mem_range.1 hx
  have hy := List.mem_range.1 hy
  have e : ∀ i, i < n → txt (List.replicate n (0 : UInt8)) true i = List.replicate n 0 := fun i hi => by
    simp only [txt, if_true, List.drop_replicate, List.take_replicate, List.replicate_append_replicate]
    congr 1; omega
  exact .inr ⟨by rw [e x hx, e y hy], h⟩
theorem atN_range (n i : Nat) (h : i < n) : atN (List.range n) i = i := by simp [atN, h]
theorem atN_rev (n i : Nat) (h : i < n) : atN (List.range n).reverse i = n - 1 - i := by
  have h2 : i < (List.range n).reverse.length := by simpa using h
  rw [atN_get _ _ h2, List.getElem_reverse]; simp
theorem one_ends : Ordered [7] false [0] := Ordered.mk' _ _ _ (fun x => by simp) rfl (by decide +kernel)
theorem one_rot : Ordered [7] true [0] := Ordered.mk' _ _ _ (fun x => by simp) rfl (by decide +kernel)
theorem four_ends : Ordered [255, 0, 255, 0] false [3, 1, 2, 0] := Ordered.mk' _ _ _ (fun x => by simp; omega) rfl (by decide +kernel)
theorem pl_nil : Pl [] [] := .inr ⟨⟨fun p hp => by simp at hp, fun p hp => by simp at hp, fun p q hp => by simp at hp⟩, rfl, fun p hp => by simp at hp⟩
theorem pl_00 : Pl [0, 0] [] := .inl ⟨fun h => by have := h.inj 0 1 (by decide) (by decide) (by decide); omega, rfl⟩
theorem pl_12 : Pl [1, 2] [] := .inl ⟨fun h => by have := h.hi 1 (by decide); revert this; decide, rfl⟩
theorem pl_m1 : Pl [-1] [] := .inl ⟨fun h => by have := h.lo 0 (by decide); revert this; decide, rfl⟩
theorem B8_zeros (n : Nat) : List.replicate n (Value.int .u8 0) = B8 (List.replicate n 0) := by simp [B8]

set_option maxRecDepth 100000 in
set_option maxHeartbeats 4000000 in
theorem sufsortKnown_law (w : World) :
    Calls Try.prog 8 #[] w fun e w' => e = .returned (.bool true) ∧ Below w.heap.size w w' := by
  have kc := fun (w : World) (C : Array Value) (n c : Nat) => Lib.run_convert_bytes_const (P := Try.prog) w 22 5 C n c Try.underlying22 Try.underlying5
  have KC := Lib.hid kc; clear kc
  go_enter Try.func8, Try.ntmps8
  go_wp2_with (refine wpList_mk rfl _ _ _ rfl elB rfl rfl 600 rfl rfl rfl rfl (by decide) (by decide) ?_; intro w1 o1 c1 s1; clear s1)
  rw [B8_zeros] at o1
  refine (ends_law _ _ _ _ _ o1.rd (by omega)).mono ?_
  rintro e w2 ⟨g2, o2, rfl, own2, ord2, b2⟩
  have c2 := c1.trans (b2.mono c1.size)
  have z2 := o1.rd.below b2
  obtain rfl := ord2.unique (zeros_ends 600)
  clear c1 b2 ord2 o1
  go_wp2_with fail
  refine (rotations_law _ _ _ _ _ z2 (by omega)).mono ?_
  rintro e w3 ⟨g3, o3, rfl, own3, ord3, b3⟩
  have c3 := c2.trans (b3.mono c2.size)
  obtain rfl := ord3.unique (zeros_rot 600)
  have own2' := own2.below b3
  clear c2 b3 ord3 own2 z2
  have H2 := Lib.hid own2'; clear own2'
  have H3 := Lib.hid own3; clear own3
  go_wp2_with fail
  go_loopg [4] 600 (fun k i wr => ∃ j : Nat, j ≤ 600 ∧ k = 600 - j ∧ i = .int .i64 (j : Int) ∧ Below w3.heap.size w3 wr)
  case atStart => exact ⟨0, Nat.zero_le _, by simp, rfl, Below.refl _ _⟩
  case round =>
    obtain ⟨j, hj, rfl, rfl, hbi⟩ := hrel
    rename World => wi
    by_cases hlt : j < 600
    · obtain ⟨ce, _⟩ := (H2.out.below hbi).getN hlt
      obtain ⟨cr, _⟩ := (H3.out.below hbi).getN hlt
      rw [atN_rev _ _ hlt] at ce
      rw [atN_range _ _ hlt] at cr
      have he : ((600 - 1 - j : Nat) : Int) = 599 - (j : Int) := by omega
      rw [he] at ce
      have h1 : (j : Int) < 600 := by omega
      clear he
      go_wp2_with fail
      go_roundg (600 - (j + 1))
      case measure => omega
      case rel => exact ⟨j + 1, by omega, rfl, by simp, hbi⟩
    · obtain rfl : j = 600 := by omega
      have c4 := c3.trans (hbi.mono c3.size)
      have kc := KC.out
      clear c3 hbi
      go_wp2_with fail
      refine (ends_law _ _ _ _ [] (Rd.empty _ _) (by omega)).mono ?_
      rintro e w5 ⟨g5, o5, rfl, own5, ord5, b5⟩
      have c5 := c4.trans (b5.mono c4.size)
      clear c4 own5 ord5 b5
      go_wp2_with fail
      refine (rotations_law _ _ _ _ [] (Rd.empty _ _) (by omega)).mono ?_
      rintro e w6 ⟨g6, o6, rfl, own6, ord6, b6⟩
      have c6 := c5.trans (b6.mono c5.size)
      clear c5 own6 ord6 b6
      go_wp2_with fail
      refine (places_any _ _ _ _ [] (Rd.empty _ _) (by omega)).mono ?_
      rintro e w7 ⟨a7, m7, cp7, o7, rfl, own7, p7, b7⟩
      have c7 := c6.trans (b7.mono c6.size)
      obtain rfl := p7.unique pl_nil
      have hm := own7.rd.lenN
      obtain rfl : 0 = m7 := hm
      clear c6 own7 p7 b7
      go_wp2_with fail
      refine (ends_known w7 _ [7] _ one_ends (by decide)).mono ?_
      rintro e w8 ⟨g8, rfl, own8, b8⟩
      have c8 := c7.trans (b8.mono c7.size)
      clear c7 b8
      go_wp2_with fail
      refine (same_known w8 _ _ _ _ _ [0] own8 rfl (by decide)).mono ?_
      rintro e w9 ⟨rfl, b9⟩
      have c9 := c8.trans (b9.mono c8.size)
      clear c8 b9 own8
      go_wp2_with fail
      refine (rotations_known w9 _ [7] _ one_rot (by decide)).mono ?_
      rintro e w10 ⟨g10, rfl, own10, b10⟩
      have c10 := c9.trans (b10.mono c9.size)
      clear c9 b10
      go_wp2_with fail
      refine (same_known w10 _ _ _ _ _ [0] own10 rfl (by decide)).mono ?_
      rintro e w11 ⟨rfl, b11⟩
      have c11 := c10.trans (b11.mono c10.size)
      clear c10 b11 own10
      go_wp2_with fail
      refine (rotations_known w11 _ [98, 97, 110, 97, 110, 97] _ ban_rot (by decide)).mono ?_
      rintro e w12 ⟨g12, rfl, own12, b12⟩
      have c12 := c11.trans (b12.mono c11.size)
      clear c11 b12
      go_wp2_with fail
      refine (same_known w12 _ _ _ _ _ [5, 3, 1, 0, 4, 2] own12 rfl (by decide)).mono ?_
      rintro e w13 ⟨rfl, b13⟩
      have c13 := c12.trans (b13.mono c12.size)
      clear c12 b13 own12
      go_wp2_with fail
      refine (ends_known w13 _ [255, 0, 255, 0] _ four_ends (by decide)).mono ?_
      rintro e w14 ⟨g14, rfl, own14, b14⟩
      have c14 := c13.trans (b14.mono c13.size)
      clear c13 b14
      go_wp2_with fail
      refine (same_known w14 _ _ _ _ _ [3, 1, 2, 0] own14 rfl (by decide)).mono ?_
      rintro e w15 ⟨rfl, b15⟩
      have c15 := c14.trans (b15.mono c14.size)
      clear c14 b15 own14
      go_wp2_with fail
      refine (places_known w15 [0, 0] _ pl_00 (by decide)).mono ?_
      rintro e w16 ⟨a16, cp16, rfl, own16, b16⟩
      have c16 := c15.trans (b16.mono c15.size)
      clear c15 b16 own16
      go_wp2_with fail
      refine (places_known w16 [1, 2] _ pl_12 (by decide)).mono ?_
      rintro e w17 ⟨a17, cp17, rfl, own17, b17⟩
      have c17 := c16.trans (b17.mono c16.size)
      clear c16 b17 own17
      go_wp2_with fail
      refine (places_known w17 [-1] _ pl_m1 (by decide)).mono ?_
      rintro e w18 ⟨a18, cp18, rfl, own18, b18⟩
      have c18 := c17.trans (b18.mono c17.size)
      clear c17 b18 own18
      go_wp2_with fail
      refine (sorts_any _).mono ?_
      rintro e w19 ⟨rfl, b19⟩
      have c19 := c18.trans (b19.mono c18.size)
      clear c18 b19
      go_wp2_with fail
      go_ret
      exact ⟨rfl, c19⟩
end Go.Proofs.Ytfgcjkknacpphaa
