/- What the laws of near need of the document's answers, as plain laws. -/
import Derived.Test.YtnlemaaglbbdnaaNearQ
namespace Go.Proofs.Ytnlemaaglbbdnaa
set_option linter.unusedSimpArgs false
set_option linter.unusedVariables false

theorem backI_spec (zs : List Int) (v : Int) : ∀ c, backI zs v c ≤ c ∧ (∀ k, backI zs v c ≤ k → k < c → v ≤ atI zs k) ∧ (0 < backI zs v c → atI zs (backI zs v c - 1) < v)
  | 0 => ⟨Nat.le_refl _, fun k _ h => by omega, fun h => by simp [backI] at h⟩
  | c + 1 => by
    obtain ⟨h1, h2, h3⟩ := backI_spec zs v c
    unfold backI
    split
    · rename_i h
      refine ⟨by omega, fun k a b => ?_, h3⟩
      by_cases hk : k = c
      · subst hk; exact h
      · exact h2 k a (by omega)
    · rename_i h
      exact ⟨Nat.le_refl _, fun k a b => by omega, fun _ => by simpa using h⟩

theorem forI_spec (zs : List Int) (v : Int) (n : Nat) : ∀ d, d ≤ n → n - d ≤ forI zs v n d ∧ forI zs v n d ≤ n ∧ (∀ k, n - d ≤ k → k < forI zs v n d → v ≤ atI zs k) ∧ (forI zs v n d < n → atI zs (forI zs v n d) < v)
  | 0, _ => ⟨by simp [forI], by simp [forI], fun k a b => by simp [forI] at b; omega, fun h => by simp [forI] at h⟩
  | d + 1, hd => by
    obtain ⟨h0, h1, h2, h3⟩ := forI_spec zs v n d (by omega)
    unfold forI
    split
    · rename_i h
      refine ⟨by omega, h1, fun k a b => ?_, h3⟩
      by_cases hk : k = n - (d + 1)
      · subst hk; exact h
      · exact h2 k (by omega) b
    · rename_i h
      exact ⟨by omega, by omega, fun k a b => by omega, fun _ => by simpa using h⟩

/-- the nearest lesser place ahead, one more -/
def bk (zs : List Int) (j : Nat) : Nat := backI zs (atI zs j) j
/-- the nearest lesser place behind -/
def fw (zs : List Int) (j : Nat) : Nat := forI zs (atI zs j) zs.length (zs.length - (j + 1))

theorem atI_ahead (zs : List Int) (m j : Nat) (hj : j < m) : atI (refAhead zs m) j = (bk zs j : Int) - 1 := by
  simp [atI, refAhead, bk, List.getD_eq_getElem?_getD, hj]
theorem atI_behind (zs : List Int) (m j : Nat) (hj : j < m) : atI (refBehind zs m) j = (fw zs j : Int) := by
  simp [atI, refBehind, fw, List.getD_eq_getElem?_getD, hj]
theorem bk_spec (zs : List Int) (j : Nat) : bk zs j ≤ j ∧ (∀ k, bk zs j ≤ k → k < j → atI zs j ≤ atI zs k) ∧ (0 < bk zs j → atI zs (bk zs j - 1) < atI zs j) := backI_spec zs (atI zs j) j
theorem fw_spec (zs : List Int) (j : Nat) (hj : j < zs.length) : j < fw zs j ∧ fw zs j ≤ zs.length ∧ (∀ k, j < k → k < fw zs j → atI zs j ≤ atI zs k) ∧ (fw zs j < zs.length → atI zs (fw zs j) < atI zs j) := by
  obtain ⟨h1, h2, h3, h4⟩ := forI_spec zs (atI zs j) zs.length (zs.length - (j + 1)) (by omega)
  exact ⟨by unfold fw; omega, h2, fun k a b => h3 k (by omega) b, h4⟩
theorem bk_of (zs : List Int) (j b : Nat) (h1 : b ≤ j) (h2 : ∀ k, b ≤ k → k < j → atI zs j ≤ atI zs k) (h3 : 0 < b → atI zs (b - 1) < atI zs j) : bk zs j = b := by
  obtain ⟨a1, a2, a3⟩ := bk_spec zs j
  rcases Nat.lt_trichotomy (bk zs j) b with h | h | h
  · have := h3 (by omega); have := a2 (b - 1) (by omega) (by omega); omega
  · exact h
  · have := a3 (by omega); have := h2 (bk zs j - 1) (by omega) (by omega); omega
theorem fw_of (zs : List Int) (j f : Nat) (hj : j < zs.length) (h1 : j < f) (h0 : f ≤ zs.length) (h2 : ∀ k, j < k → k < f → atI zs j ≤ atI zs k) (h3 : f < zs.length → atI zs f < atI zs j) : fw zs j = f := by
  obtain ⟨a1, a0, a2, a3⟩ := fw_spec zs j hj
  rcases Nat.lt_trichotomy (fw zs j) f with h | h | h
  · have := a3 (by omega); have := h2 (fw zs j) (by omega) h; omega
  · exact h
  · have := h3 (by omega); have := a2 f (by omega) h; omega

theorem refAhead_len (zs : List Int) (m : Nat) : (refAhead zs m).length = m := by simp [refAhead]
theorem refBehind_len (zs : List Int) (m : Nat) : (refBehind zs m).length = m := by simp [refBehind]
end Go.Proofs.Ytnlemaaglbbdnaa
