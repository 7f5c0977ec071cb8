/- Runs of bytes: plain law. -/
import Derived.Test.YtjlhhbbciaeggaaStr
namespace Go.Proofs.Ytjlhhbbciaeggaa
set_option linter.unusedSimpArgs false
set_option linter.unusedVariables false
open Go.RowKit

/-- how many bytes at the front are c, f at most -/
def runF : Nat → UInt8 → List UInt8 → Nat
  | f + 1, c, x :: xs => if x = c then runF f c xs + 1 else 0
  | _, _, _ => 0
/-- the first piece's length -/
def runN : List UInt8 → Nat
  | [] => 0
  | c :: xs => runF 254 c xs + 1
theorem runF_step (c : UInt8) : ∀ (f : Nat) (xs : List UInt8) (p : Nat), p ≤ runF f c xs → (p < runF f c xs ↔ p < xs.length ∧ p < f ∧ at8 xs p = c)
  | 0, xs, p, h => by simp [runF]
  | f + 1, [], p, h => by simp [runF]
  | f + 1, x :: xs, p, h => by
    unfold runF at h ⊢
    by_cases hx : x = c
    · rw [if_pos hx] at h ⊢
      cases p with
      | zero => simp [at8, hx]
      | succ p =>
        have := runF_step c f xs p (by omega)
        simp only [List.length_cons, Nat.add_lt_add_iff_right]
        rw [this]
        simp [at8]
    · rw [if_neg hx] at h ⊢
      obtain rfl : p = 0 := by omega
      simp [at8, hx]
theorem runF_le (c : UInt8) : ∀ (f : Nat) (xs : List UInt8), runF f c xs ≤ f ∧ runF f c xs ≤ xs.length
  | 0, xs => by simp [runF]
  | f + 1, [] => by simp [runF]
  | f + 1, x :: xs => by
    unfold runF
    split
    · have := runF_le c f xs; simp; omega
    · simp
theorem runF_take (c : UInt8) : ∀ (f : Nat) (xs : List UInt8), xs.take (runF f c xs) = List.replicate (runF f c xs) c
  | 0, xs => by simp [runF]
  | f + 1, [] => by simp [runF]
  | f + 1, x :: xs => by
    unfold runF
    split
    · rename_i h; rw [List.take_succ_cons, runF_take c f xs, List.replicate_succ, h]
    · simp
theorem runN_le (b : List UInt8) : runN b ≤ 255 ∧ runN b ≤ b.length := by
  cases b with
  | nil => simp [runN]
  | cons c xs => have := runF_le c 254 xs; simp [runN]; omega
theorem runN_pos {b : List UInt8} (h : 0 < b.length) : 1 ≤ runN b := by
  cases b with
  | nil => simp at h
  | cons c xs => simp [runN]
theorem runN_step (b : List UInt8) (p : Nat) (h1 : 1 ≤ p) (h : p ≤ runN b) : (p < runN b ↔ p < b.length ∧ p < 255 ∧ at8 b p = at8 b 0) := by
  cases b with
  | nil => simp [runN] at h; omega
  | cons c xs =>
    obtain ⟨q, rfl⟩ : ∃ q, p = q + 1 := ⟨p - 1, by omega⟩
    have := runF_step c 254 xs q (by simp [runN] at h; exact h)
    simp only [runN, List.length_cons, Nat.add_lt_add_iff_right]
    rw [this]
    simp [at8]
    omega
theorem runN_take (b : List UInt8) (h : 0 < b.length) : b.take (runN b) = List.replicate (runN b) (at8 b 0) := by
  cases b with
  | nil => simp at h
  | cons c xs => rw [runN, List.take_succ_cons, runF_take, List.replicate_succ]; simp [at8]

/-- the pieces: each one's byte, and length -/
def pcsF : Nat → List UInt8 → List (UInt8 × Nat)
  | f + 1, c :: xs => (c, runN (c :: xs)) :: pcsF f ((c :: xs).drop (runN (c :: xs)))
  | _, _ => []
def pcs (b : List UInt8) : List (UInt8 × Nat) := pcsF b.length b
def sumP (l : List (UInt8 × Nat)) : Nat := (l.map (·.2)).sum
def offP (b : List UInt8) (k : Nat) : Nat := sumP ((pcs b).take k)
theorem pcsF_all : ∀ (f : Nat) (b : List UInt8), b.length ≤ f → sumP (pcsF f b) = b.length ∧ ∀ k, k < (pcsF f b).length →
    sumP ((pcsF f b).take k) < b.length ∧ (pcsF f b)[k]? = some (at8 b (sumP ((pcsF f b).take k)), runN (b.drop (sumP ((pcsF f b).take k))))
  | 0, b, h => by
    have : b = [] := List.eq_nil_of_length_eq_zero (by omega)
    subst this; simp [pcsF, sumP]
  | f + 1, [], h => by simp [pcsF, sumP]
  | f + 1, c :: xs, h => by
    have hp := runN_pos (b := c :: xs) (by simp)
    have hl := (runN_le (c :: xs)).2
    have hlen : ((c :: xs).drop (runN (c :: xs))).length = (c :: xs).length - runN (c :: xs) := List.length_drop
    obtain ⟨i1, i2⟩ := pcsF_all f ((c :: xs).drop (runN (c :: xs))) (by rw [hlen]; simp at h ⊢; omega)
    simp only [pcsF]
    refine ⟨by simp only [sumP, List.map_cons, List.sum_cons] at i1 ⊢; rw [i1, hlen]; omega, fun k hk => ?_⟩
    cases k with
    | zero => simp [sumP, at8]
    | succ k =>
      obtain ⟨j1, j2⟩ := i2 k (by simpa using hk)
      have e : sumP ((((c, runN (c :: xs)) :: pcsF f ((c :: xs).drop (runN (c :: xs)))).take (k + 1))) = runN (c :: xs) + sumP ((pcsF f ((c :: xs).drop (runN (c :: xs)))).take k) := by
        simp [sumP]
      rw [e, List.getElem?_cons_succ, j2]
      rw [hlen] at j1
      refine ⟨by omega, ?_⟩
      rw [List.drop_drop]
      simp only [at8, List.getD_eq_getElem?_getD, List.getElem?_drop]
theorem pcs_sum (b : List UInt8) : sumP (pcs b) = b.length := (pcsF_all _ b (Nat.le_refl _)).1
theorem pcs_get (b : List UInt8) (k : Nat) (hk : k < (pcs b).length) : offP b k < b.length ∧ (pcs b)[k]? = some (at8 b (offP b k), runN (b.drop (offP b k))) := (pcsF_all _ b (Nat.le_refl _)).2 k hk
theorem offP_all (b : List UInt8) : offP b (pcs b).length = b.length := by rw [offP, List.take_length, pcs_sum]
theorem offP_succ (b : List UInt8) (k : Nat) (hk : k < (pcs b).length) : offP b (k + 1) = offP b k + runN (b.drop (offP b k)) := by
  rw [show offP b (k + 1) = sumP ((pcs b).take (k + 1)) from rfl, List.take_add_one, (pcs_get b k hk).2]
  simp [sumP, offP]
theorem offP_zero (b : List UInt8) : offP b 0 = 0 := by simp [offP, sumP]
theorem offP_le (b : List UInt8) (k : Nat) : offP b k ≤ b.length := by
  by_cases h : k < (pcs b).length
  · exact Nat.le_of_lt (pcs_get b k h).1
  · rw [offP, List.take_of_length_le (by omega), pcs_sum]; exact Nat.le_refl _
end Go.Proofs.Ytjlhhbbciaeggaa
