/- 'append(out, make([]T, k)...)' and 'append(out, s...)', s a string: of no program. -/
import Derived.Test.YtindbmfccgeikaaAppOld
import Derived.Lib.AppendZerosOnto
import Derived.Lib.AppendStr
namespace Go.Proofs.Ytindbmfccgeikaa
set_option linter.unusedSimpArgs false
set_option linter.unusedVariables false
open Go.RowKit

section
variable {P : Program} {w : World} {ops : Array Oper} {rest : List Oper} {o : Oper} {a : Act} {Q : Exit → Act → World → Prop}

theorem zeroCells_one (z : Value) (hz : z.cells = #[z]) (k : Nat) : Builtin.zeroCells z.cells k = (List.replicate k z).toArray := by
  rw [hz]
  apply Array.ext
  · simp [Builtin.zeroCells]
  · intro i h1 h2
    simp [Builtin.zeroCells, Nat.mod_one]

/-- 'append(out, make([]T, k)...)' where there is no room -/
theorem wpList_appz (hgd : Region.wanted o (yielded ops a.tmps) = true) (s x : Operand) (t tn : TypeId) (ho : o.op = .call { callee := .builtin .append, args := #[s, x], argTypes := #[t, tn] })
    {e : Nat} {z : Value} {bytes : Nat} (T : ElTy P t e z 1 bytes) (hz1 : z.cells = #[z]) (hzc : z.oneCell' = true) {kn kq : IntKind} (htn : P.underlying tn = some (.int kn)) {g : Addr} {n cap k : Nat} {xs : List Value}
    (hs : a.eval s = .slice (some g) n cap) (hx : a.eval x = .int kq k) (hown : Rd w 1 (some g) n cap xs) (h0 : 0 < k) (hgr : cap < n + k)
    (h63 : n + k ≤ maxLen) (hby : (n + k) * bytes ≤ 140737488355328)
    (h : ∀ cap' w', Own w' e 1 w.heap.size (some ⟨w.heap.size, 0, none⟩) (n + k) cap' (xs ++ List.replicate k z) → Below w.heap.size w w' → w.heap.size < w'.heap.size →
      wpList P ops Q rest (a.put o.dst (.slice (some ⟨w.heap.size, 0, none⟩) (n + k) cap')) w') : wpList P ops Q (o :: rest) a w := by
  refine wpList_wanted hgd fun K hK => ?_
  obtain ⟨i, hi, hz, hsz, hbt⟩ := T.inf
  have hl : xs.length = n := by have := hown.len; omega
  have holds : ∀ j u, xs[j]? = some u → w.drew.cell? (g.add j) = some u := fun j u hu => hown.cell g rfl j u hu
  have hfo := run_firstCells_some (P := P) w.drew i.size n g n cap xs (by rw [hsz]; omega) holds
  have h63' : n + k ≤ 9223372036854775807 := by simp only [maxLen] at h63; omega
  have hr := Lib.run_append_grow_zeros (P := P) w t tn o.type e i z kq kn T.und htn hi hz (some g) n cap xs hfo k h0 (by omega) hgr (by omega)
    (by subst hbt; have := Nat.mul_le_mul_right i.bytes (Nat.le_add_left k n); omega) (by subst hbt; exact growslice_fits hgr hby)
  have hge := grownCap_ge w (n + k) cap e
  have hcm := grownCap_le_maxLen w (n + k) cap e h63
  unfold Oper.wp execOp
  simp only [ho, resolve, invoke, builtin, Sem.run_bind, Sem.run_pure, Result.andThen_ok, List.map_toArray, List.map_cons, List.map_nil, hs, hx, hr]
  refine hK _ _ (h _ _ ⟨⟨by simp; omega, .inr ⟨w.heap.size, _, _, rfl, Nat.le_refl _, heap_alloc_new w.drew _, hge, hcm, ?_, ?_⟩⟩, ?_⟩ (((Below.refl _ w).drew).alloc (Nat.le_refl _) _) (by simp))
  · simp only [Array.size_append, List.size_toArray, size_zeroCells, hz1]
    simp only [List.size_toArray, List.length_cons, List.length_nil, hl]
    omega
  · rw [zeroCells_one z hz1, zeroCells_one z hz1]
    simp only [Array.toList_append, List.append_assoc]
    rw [← List.append_assoc]
    exact List.take_left' (by simp; omega)
  · intro u hu
    rcases List.mem_append.1 hu with h | h
    · exact hown.one u h
    · rw [List.eq_of_mem_replicate h]; exact hzc

/-- 'append(out, s...)', s a string -/
theorem wpList_apps (hgd : Region.wanted o (yielded ops a.tmps) = true) (s x : Operand) (t u : TypeId) (ho : o.op = .call { callee := .builtin .append, args := #[s, x], argTypes := #[t, u] })
    {e lo : Nat} (T : ElTy P t e (.int .u8 0) 1 1) (hu : P.underlying u = some .string) {ad : Option Addr} {n cap : Nat} {xs : List Value} {S : ByteArray}
    (hs : a.eval s = .slice ad n cap) (hx : a.eval x = .string S) (hown : Own w e 1 lo ad n cap xs)
    (h63 : n + S.size ≤ maxLen) (hby : n + S.size ≤ 140737488355328) (hlo : lo ≤ w.heap.size)
    (h : ∀ ad' cap' w', Own w' e 1 lo ad' (n + S.size) cap' (xs ++ Lib.strCells S) → w.grownBy w' (bOf ad) →
      wpList P ops Q rest (a.put o.dst (.slice ad' (n + S.size) cap')) w') : wpList P ops Q (o :: rest) a w := by
  refine wpList_wanted hgd fun K hK => ?_
  obtain ⟨i, hi, hz, hsz, hbt⟩ := T.inf
  obtain ⟨v', w', hr, h2, h3, _⟩ := Lib.run_append_own_string (P := P) w lo t u o.type e i T.und hu hi hz hsz hbt _ n xs hown.1 S h63 hby hlo
  have hob : Value.ownBlock (.slice ad n cap) = bOf ad := by cases ad <;> rfl
  rw [hob] at h3
  have hshape : ∃ ad' cap', v' = .slice ad' (n + S.size) cap' := by
    rcases h2.2 with ⟨rfl, hn⟩ | ⟨g, cp, cur, rfl, _⟩
    · exact ⟨none, 0, by rw [hn]⟩
    · exact ⟨_, _, rfl⟩
  obtain ⟨ad', cap', rfl⟩ := hshape
  unfold Oper.wp execOp
  simp only [ho, resolve, invoke, builtin, Sem.run_bind, Sem.run_pure, Result.andThen_ok, List.map_toArray, List.map_cons, List.map_nil, hs, hx, hr]
  refine hK _ _ (h ad' cap' w' ⟨h2, fun v hv => ?_⟩ h3)
  rcases List.mem_append.1 hv with h | h
  · exact hown.2 v h
  · exact Lib.strCells_oneCell S v h
end
end Go.Proofs.Ytindbmfccgeikaa
