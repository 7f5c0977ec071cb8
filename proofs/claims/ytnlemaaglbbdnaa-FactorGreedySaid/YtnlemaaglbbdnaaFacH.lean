/- The row of tokens, place by place: plain. -/
import Derived.Test.YtnlemaaglbbdnaaFacG
namespace Go.Proofs.Ytnlemaaglbbdnaa
set_option linter.unusedSimpArgs false
set_option linter.unusedVariables false
open Go.RowKit

/-- how far a token goes -/
def adv (t : Tok) : Nat := max t.len.toNat 1
def sumA (l : List Tok) : Nat := (l.map adv).sum
theorem sumA_snoc (l : List Tok) (t : Tok) : sumA (l ++ [t]) = sumA l + adv t := by simp [sumA]
theorem sumA_take (l : List Tok) (j : Nat) (t : Tok) (h : l[j]? = some t) : sumA (l.take (j + 1)) = sumA (l.take j) + adv t := by
  rw [List.take_add_one, h]; exact sumA_snoc _ _
/-- the token at a place -/
def tokAt (b : List UInt8) (o : List Nat) (walk p : Nat) : Tok := if 0 < (lng b o walk p).1 then ⟨(lng b o walk p).1, (lng b o walk p).2, 0⟩ else ⟨0, 0, at8 b p⟩
theorem facT_cons (b : List UInt8) (o : List Nat) (walk p : Nat) (h : p < b.length) : facT b o walk p = tokAt b o walk p :: facT b o walk (p + adv (tokAt b o walk p)) := by
  unfold tokAt
  split
  · rename_i hm
    rw [facT_rep b o walk p h hm]
    simp only [adv, Int.toNat_natCast]
    rw [Nat.max_eq_left (by omega)]
  · rename_i hm
    rw [facT_lit b o walk p h (by omega)]
    rfl
theorem adv_in {b : List UInt8} {o : List Nat} (ho : Ordered b false o) (walk : Nat) {p : Nat} (h : p < b.length) : p + adv (tokAt b o walk p) ≤ b.length := by
  unfold tokAt adv
  split
  · rename_i hm
    rcases lng_rp ho walk h with e | ⟨a1, a2, a3, a4, a5, a6⟩
    · omega
    · have := com_in b (i := p) (p - (lng b o walk p).2) (by omega)
      rw [com_comm] at this
      simp only [Int.toNat_natCast]
      omega
  · show p + max 0 1 ≤ _; omega
theorem facT_drop {b : List UInt8} {o : List Nat} (ho : Ordered b false o) (walk f : Nat) (hf : f ≤ b.length) : ∀ j, j ≤ (facT b o walk f).length → (facT b o walk f).drop j = facT b o walk (f + sumA ((facT b o walk f).take j)) ∧ f + sumA ((facT b o walk f).take j) ≤ b.length
  | 0, _ => ⟨by simp [sumA], by simpa [sumA] using hf⟩
  | j + 1, h => by
    obtain ⟨h1, h2⟩ := facT_drop ho walk f hf j (by omega)
    obtain ⟨t, ht⟩ : ∃ t, (facT b o walk f)[j]? = some t := ⟨(facT b o walk f)[j]'(by omega), by simp⟩
    have hlt : f + sumA ((facT b o walk f).take j) < b.length := by
      rcases Nat.lt_or_ge (f + sumA ((facT b o walk f).take j)) b.length with h' | h'
      · exact h'
      · rw [facT_end _ _ _ _ h'] at h1
        have := congrArg List.length h1
        simp at this; omega
    have hc := facT_cons b o walk _ hlt
    rw [← h1, drop_of ht] at hc
    obtain ⟨e1, e2⟩ := List.cons.inj hc
    rw [sumA_take _ _ _ ht, e2, e1, ← Nat.add_assoc]
    exact ⟨rfl, adv_in ho walk hlt⟩
theorem facT_get {b : List UInt8} {o : List Nat} (ho : Ordered b false o) (walk f : Nat) (hf : f ≤ b.length) {j : Nat} {t : Tok} (ht : (facT b o walk f)[j]? = some t) :
    f + sumA ((facT b o walk f).take j) < b.length ∧ t = tokAt b o walk (f + sumA ((facT b o walk f).take j)) ∧ f + sumA ((facT b o walk f).take j) + adv t ≤ b.length := by
  have hj : j < (facT b o walk f).length := (List.getElem?_eq_some_iff.1 ht).1
  obtain ⟨h1, h2⟩ := facT_drop ho walk f hf j (by omega)
  have hlt : f + sumA ((facT b o walk f).take j) < b.length := by
    rcases Nat.lt_or_ge (f + sumA ((facT b o walk f).take j)) b.length with h' | h'
    · exact h'
    · rw [facT_end _ _ _ _ h'] at h1
      have := congrArg List.length h1
      simp at this; omega
  have hc := facT_cons b o walk _ hlt
  rw [← h1, drop_of ht] at hc
  obtain ⟨e1, e2⟩ := List.cons.inj hc
  refine ⟨hlt, e1, ?_⟩
  rw [e1]; exact adv_in ho walk hlt
theorem facT_all {b : List UInt8} {o : List Nat} (ho : Ordered b false o) (walk f : Nat) (hf : f ≤ b.length) : f + sumA (facT b o walk f) = b.length := by
  obtain ⟨h1, h2⟩ := facT_drop ho walk f hf _ (Nat.le_refl _)
  rw [List.drop_length, List.take_length] at h1
  rw [List.take_length] at h2
  rcases Nat.lt_or_ge (f + sumA (facT b o walk f)) b.length with h | h
  · rw [facT_cons _ _ _ _ h] at h1; cases h1
  · omega
theorem sumA_len : ∀ l : List Tok, l.length ≤ sumA l
  | [] => by simp [sumA]
  | t :: l => by
    have := sumA_len l
    have h1 : 1 ≤ adv t := Nat.le_max_right _ _
    simp only [sumA, List.map_cons, List.sum_cons, List.length_cons] at *
    omega
theorem facT_len {b : List UInt8} {o : List Nat} (ho : Ordered b false o) (walk f : Nat) (hf : f ≤ b.length) : (facT b o walk f).length ≤ b.length - f := by
  have := facT_all ho walk f hf
  have := sumA_len (facT b o walk f)
  omega
/-- what a token may be -/
def TokOk (t : Tok) : Prop := (t.len = 0 ∧ t.dist = 0) ∨ (3 ≤ t.len ∧ t.len ≤ 258 ∧ 1 ≤ t.dist ∧ t.dist ≤ 32768 ∧ t.byte = 0)
theorem tokAt_ok {b : List UInt8} {o : List Nat} (ho : Ordered b false o) (walk : Nat) {p : Nat} (h : p < b.length) : TokOk (tokAt b o walk p) := by
  unfold tokAt
  split
  · rename_i hm
    rcases lng_rp ho walk h with e | ⟨a1, a2, a3, a4, a5, a6⟩
    · omega
    · right; dsimp only; exact ⟨by omega, by omega, by omega, by omega, rfl⟩
  · exact .inl ⟨rfl, rfl⟩
theorem TokOk.adv {t : Tok} (h : TokOk t) : (if t.len < 1 then (1 : Int) else t.len) = ((adv t : Nat) : Int) := by
  unfold TokOk at h; unfold Proofs.Ytnlemaaglbbdnaa.adv
  split <;> omega
theorem TokOk.may {t : Tok} (h : TokOk t) : mayB t = true := by
  unfold TokOk at h; unfold mayB
  rcases h with ⟨h1, h2⟩ | ⟨h1, h2, h3, h4, h5⟩
  · simp [h1, h2]
  · rw [if_neg (by omega)]; simp [h1, h2, h3, h4, h5]
end Go.Proofs.Ytnlemaaglbbdnaa
