/- A text's bytes, anew. Of no program. -/
import Derived.Test.YtindbmfccgeikaaStr
import Derived.Laws.IdiomStrings
namespace Go.Proofs.Ytindbmfccgeikaa
set_option linter.unusedSimpArgs false
set_option linter.unusedVariables false
open Go.RowKit

/-- '[]byte(text)' -/
theorem run_fresh8 {P : Program} {src dst e : TypeId} (hs : P.underlying src = some .string) (hd : P.underlying dst = some (.slice e)) (he : P.underlying e = some (.int .u8)) (w : World) (xs : List UInt8) (hl : xs.length ≤ maxLen) :
    ∃ c w', (convert src dst (.string (bstr xs))).run P w = .ok (.slice (some ⟨w.heap.size, 0, none⟩) xs.length c) w' ∧ Rd w' 1 (some ⟨w.heap.size, 0, none⟩) xs.length c (B8 xs) ∧ Below w.heap.size w w' := by
  have h := run_bytes_of_string (P := P) w src dst e (bstr xs) hs hd he
  rw [bstr_size] at h
  refine ⟨_, _, h, ⟨by rw [B8_len]; omega, grownCap_ge _ _ _ _, grownCap_le_maxLen _ _ _ _ hl, fun e => (by cases e), B8_one xs, fun a ha j u hu => ?_⟩, ((Below.refl _ w).drew).alloc (by simp) _⟩
  cases ha
  have hj : j < xs.length := by have := (List.getElem?_eq_some_iff.1 hu).1; rwa [B8_len] at this
  rw [Addr.add_lit, Nat.zero_add]
  have h1 : (w.drew.alloc (.cells (bytesRow (bstr xs) (grownCap w xs.length 0 e)) e ((bytesRow (bstr xs) (grownCap w xs.length 0 e)).size, (bytesRow (bstr xs) (grownCap w xs.length 0 e)).size + 1))).heap[w.heap.size]? = some (.cells (bytesRow (bstr xs) (grownCap w xs.length 0 e)) e ((bytesRow (bstr xs) (grownCap w xs.length 0 e)).size, (bytesRow (bstr xs) (grownCap w xs.length 0 e)).size + 1)) := heap_alloc_new w.drew _
  rw [cell_of_row _ w.heap.size j _ _ _ h1, bytesRow_at (bstr xs) _ j (by simpa [bstr] using hj), ← hu, B8_get _ _ hj]
  simp [bstr, at8, hj]
end Go.Proofs.Ytindbmfccgeikaa
