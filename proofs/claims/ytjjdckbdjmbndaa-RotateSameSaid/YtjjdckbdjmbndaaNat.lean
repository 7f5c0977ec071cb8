/- Rows of natural numbers, as cells. Of no program. -/
import Derived.Test.YtjjdckbdjmbndaaMore
namespace Go.Proofs.Ytjjdckbdjmbndaa
set_option linter.unusedSimpArgs false
set_option linter.unusedVariables false
open Go.RowKit

def N64 (xs : List Nat) : List Value := xs.map fun c : Nat => Value.int .i64 (c : Int)
def atN (xs : List Nat) (k : Nat) : Nat := xs.getD k 0
theorem N64_len (xs : List Nat) : (N64 xs).length = xs.length := by simp [N64]
theorem N64_get (xs : List Nat) (k : Nat) (h : k < xs.length) : (N64 xs)[k]? = some (.int .i64 ((atN xs k : Nat) : Int)) := by simp [N64, atN, h]
theorem N64_take (xs : List Nat) (k : Nat) : (N64 xs).take k = N64 (xs.take k) := by simp [N64, List.map_take]
theorem N64_drop (xs : List Nat) (k : Nat) : (N64 xs).drop k = N64 (xs.drop k) := by simp [N64, List.map_drop]
theorem N64_app (xs ys : List Nat) : N64 xs ++ N64 ys = N64 (xs ++ ys) := by simp [N64]
theorem N64_set (xs : List Nat) (j v : Nat) : (N64 xs).set j (.int .i64 (v : Int)) = N64 (xs.set j v) := by simp [N64, List.map_set]
theorem N64_one (xs : List Nat) : ∀ u ∈ N64 xs, u.oneCell' = true := by
  intro u hu; obtain ⟨_, _, rfl⟩ := List.mem_map.1 hu; rfl
theorem N64_zeros (n : Nat) : List.replicate n (Value.int .i64 0) = N64 (List.replicate n 0) := by simp [N64]
theorem N64_I64 (xs : List Nat) : N64 xs = I64 (xs.map fun c : Nat => (c : Int)) := by simp [N64, I64]
theorem atN_set (xs : List Nat) (j k v : Nat) (h : k < xs.length) : atN (xs.set j v) k = if k = j then v else atN xs k := by
  simp only [atN, List.getD_eq_getElem?_getD, List.getElem?_set]
  by_cases hj : j = k
  · subst hj; simp [h]
  · simp [hj, Ne.symm hj, fun e : k = j => hj e.symm]
theorem atN_get (xs : List Nat) (k : Nat) (h : k < xs.length) : atN xs k = xs[k] := by simp [atN, h]
theorem atN_ext {xs ys : List Nat} (hl : xs.length = ys.length) (h : ∀ j, j < xs.length → atN xs j = atN ys j) : xs = ys := by
  apply List.ext_getElem hl
  intro i h1 h2
  have := h i h1
  simpa [atN, h1, h2] using this

/-- the first m numbers of a row told by a function -/
def rowN (f : Nat → Nat) (m : Nat) : List Nat := (List.range m).map f
theorem rowN_succ (f : Nat → Nat) (m : Nat) : rowN f (m + 1) = rowN f m ++ [f m] := by simp [rowN, List.range_succ]
theorem rowN_len (f : Nat → Nat) (m : Nat) : (rowN f m).length = m := by simp [rowN]
theorem atN_row (f : Nat → Nat) (m k : Nat) (h : k < m) : atN (rowN f m) k = f k := by simp [atN, rowN, List.getD_eq_getElem?_getD, h]
theorem rowN_congr (f g : Nat → Nat) (m : Nat) (h : ∀ k, k < m → f k = g k) : rowN f m = rowN g m := by
  unfold rowN; exact List.map_congr_left fun k hk => h k (List.mem_range.1 hk)
theorem rowN_set (f g : Nat → Nat) (m j v : Nat) (h : ∀ k, k < m → g k = if k = j then v else f k) : (rowN f m).set j v = rowN g m := by
  apply atN_ext (by simp [rowN_len])
  intro k hk
  simp only [List.length_set, rowN_len] at hk
  rw [atN_set _ _ _ _ (by rw [rowN_len]; exact hk), atN_row _ _ _ hk, atN_row _ _ _ hk, h k hk]

theorem Rd.lenN {w : World} {ad : Option Addr} {n cap : Nat} {xs : List Nat} (h : Rd w 1 ad n cap (N64 xs)) : xs.length = n := by have := h.len; simpa [N64_len] using this
theorem Rd.getN {w : World} {ad : Option Addr} {n cap : Nat} {xs : List Nat} (h : Rd w 1 ad n cap (N64 xs)) {k : Nat} (hk : k < n) : ad ≠ none ∧ w.cell? (sAt ad k) = some (.int .i64 ((atN xs k : Nat) : Int)) :=
  ⟨h.ne (by omega), h.cellAt (N64_get xs k (by rw [h.lenN]; exact hk))⟩
theorem Own.getN {w : World} {e lo g n cap : Nat} {xs : List Nat} (h : Own w e 1 lo (some ⟨g, 0, none⟩) n cap (N64 xs)) {k : Nat} (hk : k < n) : w.cell? ⟨g, k, none⟩ = some (.int .i64 ((atN xs k : Nat) : Int)) ∧ w.frozen? ⟨g, k, none⟩ = false :=
  h.read (N64_get xs k (by rw [h.rd.lenN]; exact hk))
theorem Own.setN {w : World} {e lo g n cap : Nat} {xs : List Nat} (h : Own w e 1 lo (some ⟨g, 0, none⟩) n cap (N64 xs)) (j v : Nat) : Own (w.setCell ⟨g, j, none⟩ (.int .i64 (v : Int))) e 1 lo (some ⟨g, 0, none⟩) n cap (N64 (xs.set j v)) := by
  have := h.set j (.int .i64 (v : Int)) rfl
  rwa [N64_set] at this
theorem Own.getI {w : World} {e lo g n cap : Nat} {xs : List Int} (h : Own w e 1 lo (some ⟨g, 0, none⟩) n cap (I64 xs)) {k : Nat} (hk : k < n) : w.cell? ⟨g, k, none⟩ = some (.int .i64 (atI xs k)) ∧ w.frozen? ⟨g, k, none⟩ = false :=
  h.read (I64_get xs k (by rw [h.rd.lenI]; exact hk))
end Go.Proofs.Ytjjdckbdjmbndaa
