/- The known texts' tokens: plain. -/
import Derived.Test.YtnlemaaglbbdnaaFacG
namespace Go.Proofs.Ytnlemaaglbbdnaa
set_option linter.unusedSimpArgs false
set_option linter.unusedVariables false

theorem knA {o : List Nat} (ho : Ordered [97, 98, 97, 98, 97, 98, 99] false o) : facT [97, 98, 97, 98, 97, 98, 99] o 0 2 = [⟨4, 2, 0⟩, ⟨0, 0, 99⟩] := by
  rw [facT_one (m := 4) (d := 2) ho (by decide) (by decide) (by decide) (by decide) (by decide) (by decide +kernel) (by decide +kernel),
    facT_none ho (by decide) (by decide +kernel), facT_end _ _ _ _ (by decide)]
  rfl
theorem knB {o : List Nat} (ho : Ordered [97, 98, 99, 97, 98, 100] false o) : facT [97, 98, 99, 97, 98, 100] o 0 3 = [⟨0, 0, 97⟩, ⟨0, 0, 98⟩, ⟨0, 0, 100⟩] := by
  rw [facT_none ho (by decide) (by decide +kernel), facT_none ho (by decide) (by decide +kernel), facT_none ho (by decide) (by decide +kernel), facT_end _ _ _ _ (by decide)]
  rfl
theorem knC {o : List Nat} (ho : Ordered [97, 97, 97, 97] false o) : facT [97, 97, 97, 97] o 0 0 = [⟨0, 0, 97⟩, ⟨3, 1, 0⟩] := by
  rw [facT_none ho (by decide) (by decide +kernel), facT_one (m := 3) (d := 1) ho (by decide) (by decide) (by decide) (by decide) (by decide) (by decide +kernel) (by decide +kernel), facT_end _ _ _ _ (by decide)]
  rfl
theorem knD {o : List Nat} (ho : Ordered [] false o) : facT [] o 0 0 = [] := facT_end _ _ _ _ (by decide)

/-- as many zeros -/
def zer (n : Nat) : List UInt8 := List.replicate n 0
theorem zer_len (n : Nat) : (zer n).length = n := List.length_replicate
theorem com_zer {n i d : Nat} (h1 : 1 ≤ d) (h2 : d ≤ i) (h3 : i ≤ n) : com (zer n) (i - d) i = n - i := by
  refine Com.eq ⟨fun s hs => ?_, ?_⟩
  · refine (onB_iff _ _ _).2 ⟨by simp [zer]; omega, by simp [zer]; omega, ?_⟩
    simp [zer, at8, List.getD_eq_getElem?_getD, List.getElem?_replicate]
    rw [if_pos (by omega), if_pos (by omega)]
  · rw [Bool.eq_false_iff]
    intro h
    have := ((onB_iff _ _ _).1 h).2.1
    simp [zer] at this; omega
theorem zer_some {n i m : Nat} {o : List Nat} (ho : Ordered (zer n) false o) (hi0 : 0 < i) (hi : i < n) (h3 : 3 ≤ m) (hm : min (n - i) 258 = m) : ∃ d, facT (zer n) o 0 i = ⟨m, (d : Nat), 0⟩ :: facT (zer n) o 0 (i + m) := by
  obtain ⟨d', a1, a2, a3, a4, a5⟩ := facT_some (m := m) (d := 1) ho (by simpa [zer] using hi) h3 (by decide) (by omega) (by decide) (by rw [com_zer (by decide) (by omega) (by omega)]; exact hm)
    (fun d' b1 b2 b3 => by rw [com_zer b2 (by omega) (by omega)]; omega)
  exact ⟨d', a5⟩
theorem knZ {o : List Nat} (ho : Ordered (zer 600) false o) : ∃ d1 d2 d3 : Nat, facT (zer 600) o 0 0 = [⟨0, 0, 0⟩, ⟨258, d1, 0⟩, ⟨258, d2, 0⟩, ⟨83, d3, 0⟩] := by
  obtain ⟨d1, h1⟩ := zer_some (i := 1) (m := 258) ho (by decide) (by decide) (by decide) (by decide)
  obtain ⟨d2, h2⟩ := zer_some (i := 259) (m := 258) ho (by decide) (by decide) (by decide) (by decide)
  obtain ⟨d3, h3⟩ := zer_some (i := 517) (m := 83) ho (by decide) (by decide) (by decide) (by decide)
  refine ⟨d1, d2, d3, ?_⟩
  rw [facT_none ho (i := 0) (by rw [zer_len]; decide) (fun d b1 b2 b3 => by omega)]
  rw [show (0 : Nat) + 1 = 1 from rfl, h1, show 1 + 258 = 259 from rfl, h2, show 259 + 258 = 517 from rfl, h3, facT_end _ _ _ _ (by rw [zer_len]; decide)]
  rfl

/-- a text whose first three bytes stand once more at its end, and not between -/
structure FarT (b : List UInt8) (f : Nat) : Prop where
  len : b.length = f + 3
  f3 : 3 ≤ f
  h0 : at8 b 0 = 120
  h1 : at8 b 1 = 121
  h2 : at8 b 2 = 122
  e0 : at8 b f = 120
  e1 : at8 b (f + 1) = 121
  e2 : at8 b (f + 2) = 122
  no : ∀ k, 3 ≤ k → k < f → at8 b k ≠ 120
theorem com_zero {b : List UInt8} {i j : Nat} (h : at8 b i ≠ at8 b j) : com b i j = 0 := by
  rcases Nat.eq_zero_or_pos (com b i j) with e | e
  · exact e
  · exact absurd (com_at (s := 0) e).2.2 (by simpa using h)
theorem FarT.com0 {b : List UInt8} {f : Nat} (h : FarT b f) : com b 0 f = 3 := by
  refine Com.eq ⟨fun s hs => ?_, ?_⟩
  · have hl := h.len
    refine (onB_iff _ _ _).2 ⟨by have := h.f3; omega, by omega, ?_⟩
    have : s = 0 ∨ s = 1 ∨ s = 2 := by omega
    rcases this with rfl | rfl | rfl
    · rw [show 0 + 0 = 0 from rfl, show f + 0 = f from rfl, h.h0, h.e0]
    · rw [show 0 + 1 = 1 from rfl, h.h1, h.e1]
    · rw [show 0 + 2 = 2 from rfl, h.h2, h.e2]
  · rw [Bool.eq_false_iff]
    intro hh
    have := ((onB_iff _ _ _).1 hh).2.1
    have := h.len
    omega
theorem FarT.com1 {b : List UInt8} {f : Nat} (h : FarT b f) {d : Nat} (hd : 1 ≤ d) (hf : d < f) : com b (f - d) f = 0 := by
  refine com_zero ?_
  rw [h.e0]
  rcases Nat.lt_or_ge (f - d) 3 with h3 | h3
  · have : f - d = 1 ∨ f - d = 2 := by omega
    rcases this with e | e <;> rw [e]
    · rw [h.h1]; decide
    · rw [h.h2]; decide
  · exact h.no _ h3 (by omega)
theorem FarT.near {b : List UInt8} {f : Nat} (h : FarT b f) {o : List Nat} (ho : Ordered b false o) (hf : f ≤ 32768) : facT b o 0 f = [⟨3, f, 0⟩] := by
  have hl := h.len
  have h3 := h.f3
  rw [facT_one (m := 3) (d := f) ho (by omega) (by decide) (by omega) (Nat.le_refl _) hf (by rw [Nat.sub_self, h.com0]; decide)
    (fun d' b1 b2 b3 b4 => by rw [h.com1 b2 (by omega)]; decide), facT_end _ _ _ _ (by omega)]
  rfl
theorem FarT.far {b : List UInt8} {f : Nat} (h : FarT b f) {o : List Nat} (ho : Ordered b false o) (hf : 32768 < f) : (facT b o 0 f).length = 3 := by
  have hl := h.len
  have hc : ∀ i d, f < i → i < f + 3 → com b (i - d) i < 3 := fun i d h1 h2 => by
    have := com_in b (i := i) (i - d) (by omega)
    rw [com_comm] at this; omega
  rw [facT_none ho (i := f) (by omega) (fun d b1 b2 b3 => by rw [h.com1 b2 (by omega)]; decide),
    facT_none ho (i := f + 1) (by omega) (fun d b1 b2 b3 => hc _ _ (by omega) (by omega)),
    facT_none ho (i := f + 1 + 1) (by omega) (fun d b1 b2 b3 => hc _ _ (by omega) (by omega)), facT_end _ _ _ _ (by omega)]
  rfl
/-- what stands between -/
def fil (k : Nat) : Nat := k % 7 + k / 7 % 11 * 7
theorem fil_lt (k : Nat) : fil k ≤ 76 := by unfold fil; omega
def filL (f j : Nat) : List UInt8 := [120, 121, 122] ++ ((List.range (j - 3)).map fun k => UInt8.ofNat (fil (k + 3))) ++ List.replicate (f - j) 0
end Go.Proofs.Ytnlemaaglbbdnaa
