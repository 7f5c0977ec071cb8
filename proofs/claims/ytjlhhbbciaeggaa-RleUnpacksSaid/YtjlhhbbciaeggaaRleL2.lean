/- The law RleUnpacks, walked. -/
import Derived.Test.YtjlhhbbciaeggaaRleJ
import Derived.Test.YtjlhhbbciaeggaaRleK
namespace Go.Proofs.Ytjlhhbbciaeggaa
set_option linter.unusedSimpArgs false
set_option linter.unusedVariables false
open Go.RowKit

theorem same_law (w : World) (a1 a2 : Option Addr) (n c1 c2 : Nat) (o : List UInt8) (h1 : Rd w 1 a1 n c1 (B8 o)) (h2 : Rd w 1 a2 n c2 (B8 o)) (s u : Int) :
    Calls Try.prog 13 #[.agg #[.slice a1 n c1, .int .i64 s, .int .i64 u, .bool false], .agg #[.slice a2 n c2, .int .i64 s, .int .i64 u, .bool false]] w fun e w' => e = .returned (.bool true) ∧ Below w.heap.size w w' := by
  have n1 := four_own w 29 (.slice a1 n c1) (.int .i64 s) (.int .i64 u) (.bool false) rfl rfl rfl rfl
  have s1 : ∀ o1 o2, (convert 22 9 (.slice a1 n c1)).run Try.prog ((w.alloc o1).alloc o2) = .ok (.string (bstr o)) ((w.alloc o1).alloc o2) := fun o1 o2 => rstr ((h1.alloc o1).alloc o2)
  have s2 : ∀ o1 o2, (convert 22 9 (.slice a2 n c2)).run Try.prog ((w.alloc o1).alloc o2) = .ok (.string (bstr o)) ((w.alloc o1).alloc o2) := fun o1 o2 => rstr ((h2.alloc o1).alloc o2)
  have hb : ∀ o1 o2, Below w.heap.size w ((w.alloc o1).alloc o2) := fun o1 o2 => ((Below.refl _ w).alloc (Nat.le_refl _) _).alloc (by simp) _
  go_enter Try.func13, Try.ntmps13
  go_wp2_with fail
  go_ret
  exact ⟨rfl, hb _ _⟩

set_option maxRecDepth 100000 in
set_option maxHeartbeats 4000000 in
theorem rleUnpacks_law (w : World) (ad : Option Addr) (n cap : Nat) (p : List UInt8) (hb : Rd w 1 ad n cap (B8 p)) (keep : Int) (hg : -9223372036854775808 ≤ keep ∧ keep ≤ 9223372036854775807) :
    Calls Try.prog 4 #[.slice ad n cap, .int .i64 keep] w fun e w' => e = .returned (.bool true) ∧ Below w.heap.size w w' := by
  obtain ⟨hg0, hg1⟩ := hg
  by_cases hn : 2000 < n
  · go_enter Try.func4, Try.ntmps4
    go_wp2
    go_ret
    exact ⟨rfl, Below.refl _ _⟩
  go_enter Try.func4, Try.ntmps4
  go_wp2_with (refine wpList_clone rfl _ _ _ rfl elB rfl rfl hb (by unfold maxLen; omega) (by omega) ?_; intro a1 k1 w1 o1 b1 s1)
  clear s1
  refine (unpack_law w1 a1 n k1 p o1.rd (by omega) keep hg1).mono ?_
  intro e w2 h2
  unfold UnPost at h2
  obtain ⟨b2, h2⟩ := h2
  have c2 := b1.trans (b2.mono b1.size)
  by_cases hr : keep < 0
  · obtain ⟨_, rfl⟩ : keep < 0 ∧ e = .returned (.tuple #[.agg #[.slice none 0 0, .int .i64 0, .int .i64 0, .bool false], .int .i64 5]) := by
      rcases h2 with h2 | ⟨h2, _⟩
      · exact h2
      · omega
    clear h2
    have p1 := o1.rd.below b2
    clear o1 b2
    go_wp2_with fail
    have n2 := four_own w2 29 (.slice none 0 0) (.int .i64 0) (.int .i64 0) (.bool false) rfl rfl rfl rfl
    have c2' := c2.alloc c2.size (.cells #[.slice none 0 0, .int .i64 0, .int .i64 0, .bool false] 29)
    have z2 := c2.size
    have p1' := p1.alloc (.cells #[.slice none 0 0, .int .i64 0, .int .i64 0, .bool false] 29)
    generalize w2.alloc (.cells #[.slice none 0 0, .int .i64 0, .int .i64 0, .bool false] 29) = w2' at *
    generalize w2.heap.size = B2 at *
    refine (refUnpack_law w2' ad n cap p (hb.below c2') (by omega) keep hg1).mono ?_
    intro e w3 h3
    unfold RefUnPost at h3
    obtain ⟨b3, h3⟩ := h3
    have c3 := c2'.trans (b3.mono c2'.size)
    obtain ⟨_, rfl⟩ : keep < 0 ∧ e = .returned (.tuple #[.agg #[.slice none 0 0, .int .i64 0, .int .i64 0, .bool false], .int .i64 5]) := by
      rcases h3 with h3 | ⟨h3, _⟩
      · exact h3
      · omega
    clear h3
    have r1 := p1'.below b3
    have r2 := hb.below c3
    have n3 := (n2.below b3).alloc (.cells #[.slice none 0 0, .int .i64 0, .int .i64 0, .bool false] 29)
    have f0 := (Own.read n3 (j := 0) rfl).1
    have f1 := (Own.read n3 (j := 1) rfl).1
    have f2 := (Own.read n3 (j := 2) rfl).1
    have f3 := (Own.read n3 (j := 3) rfl).1
    clear n2 n3
    clear b1 b3 c2 c2' hb p1 p1'
    have c3' := c3.alloc c3.size (.cells #[.slice none 0 0, .int .i64 0, .int .i64 0, .bool false] 29)
    have r1' := r1.alloc (.cells #[.slice none 0 0, .int .i64 0, .int .i64 0, .bool false] 29)
    have r2' := r2.alloc (.cells #[.slice none 0 0, .int .i64 0, .int .i64 0, .bool false] 29)
    clear r1 r2 c3
    go_wp2_with fail
    refine (same_law _ none none 0 0 0 [] (Rd.empty _ _) (Rd.empty _ _) 0 0).mono ?_
    rintro e w4 ⟨rfl, b4⟩
    have c4 := c3'.trans (b4.mono c3'.size)
    have s1 := rstr (r1'.below b4)
    have s2 := rstr (r2'.below b4)
    clear r1' r2' b4 c3'
    go_wp2_with fail
    refine (packs_any _).mono ?_
    rintro e w9 ⟨rfl, b9⟩
    go_wp2_with fail
    go_ret
    exact ⟨rfl, c4.trans (b9.mono c4.size)⟩
  · obtain ⟨a2, k2, rfl, o2⟩ : ∃ a c, e = .returned (.tuple #[.agg #[.slice a (min (say p).length keep.toNat) c, .int .i64 ((say p).length : Int), .int .i64 (n : Int), .bool false], .int .i64 0]) ∧ Own w2 5 1 w1.heap.size a (min (say p).length keep.toNat) c (B8 ((say p).take keep.toNat)) := by
      rcases h2 with ⟨h2, _⟩ | ⟨_, h2⟩
      · omega
      · exact h2
    clear h2
    have p1 := o1.rd.below b2
    have p2 := o2.rd
    clear o1 b2 o2
    obtain ⟨m, hm⟩ : ∃ m, min (say p).length keep.toNat = m := ⟨_, rfl⟩
    obtain ⟨o, ho⟩ : ∃ o, (say p).take keep.toNat = o := ⟨_, rfl⟩
    obtain ⟨L, hL⟩ : ∃ L, (say p).length = L := ⟨_, rfl⟩
    rw [hm, ho] at p2
    rw [hm, hL]
    have HM := Lib.hid hm; clear hm
    have HO := Lib.hid ho; clear ho
    have HL := Lib.hid hL; clear hL
    go_wp2_with fail
    have n2 := four_own w2 29 (.slice a2 m k2) (.int .i64 (L : Int)) (.int .i64 (n : Int)) (.bool false) rfl rfl rfl rfl
    have c2' := c2.alloc c2.size (.cells #[.slice a2 m k2, .int .i64 (L : Int), .int .i64 (n : Int), .bool false] 29)
    have z2 := c2.size
    have p1' := p1.alloc (.cells #[.slice a2 m k2, .int .i64 (L : Int), .int .i64 (n : Int), .bool false] 29)
    have p2' := p2.alloc (.cells #[.slice a2 m k2, .int .i64 (L : Int), .int .i64 (n : Int), .bool false] 29)
    generalize w2.alloc (.cells #[.slice a2 m k2, .int .i64 (L : Int), .int .i64 (n : Int), .bool false] 29) = w2' at *
    generalize w2.heap.size = B2 at *
    refine (refUnpack_law w2' ad n cap p (hb.below c2') (by omega) keep hg1).mono ?_
    intro e w3 h3
    unfold RefUnPost at h3
    obtain ⟨b3, h3⟩ := h3
    have c3 := c2'.trans (b3.mono c2'.size)
    obtain ⟨a3, k3, rfl, o3⟩ : ∃ a c, e = .returned (.tuple #[.agg #[.slice a (min (say p).length keep.toNat) c, .int .i64 ((say p).length : Int), .int .i64 (n : Int), .bool false], .int .i64 0]) ∧ Rd w3 1 a (min (say p).length keep.toNat) c (B8 ((say p).take keep.toNat)) := by
      rcases h3 with ⟨h3, _⟩ | ⟨_, h3⟩
      · omega
      · exact h3
    clear h3
    have r1 := p1'.below b3
    have r2 := hb.below c3
    have r3 := p2'.below b3
    have n3 := (n2.below b3).alloc (.cells #[.slice a3 m k3, .int .i64 (L : Int), .int .i64 (n : Int), .bool false] 29)
    have f0 := (Own.read n3 (j := 0) rfl).1
    have f1 := (Own.read n3 (j := 1) rfl).1
    have f2 := (Own.read n3 (j := 2) rfl).1
    have f3 := (Own.read n3 (j := 3) rfl).1
    clear n2 n3
    rw [HM.out, HO.out] at o3
    rw [HM.out, HL.out]
    clear b1 b3 c2 c2' hb p1 p1' p2 p2'
    have c3' := c3.alloc c3.size (.cells #[.slice a3 m k3, .int .i64 (L : Int), .int .i64 (n : Int), .bool false] 29)
    have r1' := r1.alloc (.cells #[.slice a3 m k3, .int .i64 (L : Int), .int .i64 (n : Int), .bool false] 29)
    have r2' := r2.alloc (.cells #[.slice a3 m k3, .int .i64 (L : Int), .int .i64 (n : Int), .bool false] 29)
    have r3' := r3.alloc (.cells #[.slice a3 m k3, .int .i64 (L : Int), .int .i64 (n : Int), .bool false] 29)
    have o3' := o3.alloc (.cells #[.slice a3 m k3, .int .i64 (L : Int), .int .i64 (n : Int), .bool false] 29)
    clear r1 r2 r3 o3 c3
    go_wp2_with fail
    refine (same_law _ a2 a3 m k2 k3 o r3' o3' L n).mono ?_
    rintro e w4 ⟨rfl, b4⟩
    have c4 := c3'.trans (b4.mono c3'.size)
    have s1 := rstr (r1'.below b4)
    have s2 := rstr (r2'.below b4)
    clear r1' r2' b4 c3' r3' o3'
    go_wp2_with fail
    refine (packs_any _).mono ?_
    rintro e w9 ⟨rfl, b9⟩
    go_wp2_with fail
    go_ret
    exact ⟨rfl, c4.trans (b9.mono c4.size)⟩
end Go.Proofs.Ytjlhhbbciaeggaa
