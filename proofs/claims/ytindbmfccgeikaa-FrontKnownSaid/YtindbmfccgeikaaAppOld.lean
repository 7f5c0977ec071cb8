/- Appending to a row twice: the row that was appended to stays. Of no program. -/
import Derived.Test.YtindbmfccgeikaaMore
namespace Go.Proofs.Ytindbmfccgeikaa
set_option linter.unusedSimpArgs false
set_option linter.unusedVariables false
open Go.RowKit

theorem Own.short {w : World} {e sz lo : Nat} {ad : Option Addr} {n cap : Nat} {cs : List Value} (h : Own w e sz lo ad n cap cs) {j : Nat} (hj : j ≤ n) : Own w e sz lo ad j cap (cs.take (j * sz)) := by
  obtain ⟨hl, hc⟩ := h.cases
  have hjn : j * sz ≤ n * sz := Nat.mul_le_mul_right _ hj
  have hlen : (cs.take (j * sz)).length = j * sz := by rw [List.length_take]; omega
  refine ⟨⟨hlen, ?_⟩, fun u hu => h.2 u (List.mem_of_mem_take hu)⟩
  rcases hc with ⟨rfl, rfl, rfl⟩ | ⟨g, cur, rfl, hb, hg, hn, hm, hs, ht⟩
  · left; obtain rfl : j = 0 := by omega
    exact ⟨rfl, rfl⟩
  · right
    exact ⟨g, cap, cur, rfl, hb, hg, by omega, hm, hs, by rw [← ht, List.take_take, Nat.min_eq_left hjn]⟩

section
variable {P : Program} {w : World} {ops : Array Oper} {rest : List Oper} {o : Oper} {a : Act} {Q : Exit → Act → World → Prop}
theorem app_old {t e : Nat} {z : Value} {sz bytes lo : Nat} (T : ElTy P t e z sz bytes) (ty : TypeId) {ad sd : Option Addr} {n cap m c : Nat} {xs ys : List Value}
    (hown : Own w e sz lo ad n cap xs) (hsrc : Rd w sz sd m c ys) (h63 : n + m ≤ maxLen) (hby : (n + m) * bytes ≤ 140737488355328)
    {ad' : Option Addr} {cap' : Nat} {w' : World} (hr : (Builtin.append_ #[t, t] ty #[.slice ad n cap, .slice sd m c]).run P w = .ok (.slice ad' (n + m) cap') w') (h2 : Own w' e sz lo ad' (n + m) cap' (xs ++ ys)) : Own w' e sz lo ad n cap xs := by
  obtain ⟨i, hi, hz, hsz, hbt⟩ := T.inf
  have hsmall : n + m ≤ 9223372036854775807 := by simp only [maxLen] at h63; omega
  cases sd with
  | none =>
    have hc := hsrc.nil rfl
    have hm : m = 0 := by have := hsrc.ncap; omega
    subst hc; subst hm
    have := run_append_owned_none (P := P) w lo t ty e i sz T.und hi _ n xs hown.1
    rw [this] at hr; simp at hr; rw [← hr.2]; exact hown
  | some x =>
    subst hsz
    obtain ⟨hl, hc⟩ := hown.cases
    rcases hc with ⟨rfl, rfl, rfl⟩ | ⟨g0, cur, rfl, hb, hgc, hn, hm, hs, ht⟩
    · have : xs = [] := List.eq_nil_of_length_eq_zero (by simpa using hl)
      subst this
      exact Own.nil _ _ _ _
    · by_cases hroom : n + m ≤ cap
      · have hfit : n * i.size + ys.length ≤ cur.size := by rw [hsrc.len, hs, ← Nat.add_mul]; exact Nat.mul_le_mul_right _ hroom
        have := run_append_room (P := P) w t ty e i T.und hi g0 n cap cur hgc x m c ys hsrc.len (hsrc.cell x rfl) hsrc.one hroom hfit
        rw [this] at hr; simp at hr
        have h3 := h2.short (Nat.le_add_right n m)
        rw [List.take_left' (by rw [hl])] at h3
        rw [← hr.1.1, ← hr.1.2] at h3
        exact h3
      · subst hbt
        have holds : ∀ j u, xs[j]? = some u → w.cell? ((⟨g0, 0, none⟩ : Addr).add j) = some u := hown.1.cells (g := g0) rfl
        have := run_append_grow (P := P) w t ty e i z T.und hi hz ⟨g0, 0, none⟩ n cap xs hl holds x m c ys hsrc.len (hsrc.cell x rfl) (by omega) (by omega) (growslice_fits (by omega) hby)
        rw [this] at hr; simp at hr
        rw [← hr.2]
        exact hown.drew.alloc _

/-- one more element; the row that was appended to is told too -/
theorem wpList_push2 (hgd : Region.wanted o (yielded ops a.tmps) = true) (s x : Operand) (t : TypeId) (ho : o.op = .call { callee := .builtin .append, args := #[s, x], argTypes := #[t, t] })
    {e : Nat} {z : Value} {sz bytes lo : Nat} (T : ElTy P t e z sz bytes) {ad : Option Addr} {n cap : Nat} {xs ys : List Value}
    (hs : a.eval s = .slice ad n cap) (hx : a.eval x = .slice (some ⟨w.heap.size, 0, none⟩) 1 1) (hown : Own w e sz lo ad n cap xs)
    (hl : ys.length = sz) (h1 : ∀ u ∈ ys, u.oneCell' = true)
    (h63 : n + 1 ≤ maxLen) (hby : (n + 1) * bytes ≤ 140737488355328) (hlo : lo ≤ w.heap.size)
    (h : ∀ ad' cap' w', Own w' e sz lo ad' (n + 1) cap' (xs ++ ys) → Own w' e sz lo ad n cap xs → w.grownBy w' (bOf ad) →
      wpList P ops Q rest (a.put o.dst (.slice ad' (n + 1) cap')) w') : wpList P ops Q (o :: rest) a (w.alloc (.cells ys.toArray e)) := by
  refine wpList_wanted hgd fun K hK => ?_
  have hw := hown.alloc (.cells ys.toArray e)
  have hrd := Rd.row w e sz 1 ys (by omega) (by decide) h1
  obtain ⟨ad', cap', w', hr, h2, h3, h4⟩ := run_app (P := P) T o.type hw hrd h63 hby (by simp; omega)
  have h5 := app_old (P := P) T o.type hw hrd h63 hby hr h2
  unfold Oper.wp execOp
  simp only [ho, resolve, invoke, builtin, Sem.run_bind, Sem.run_pure, Result.andThen_ok, List.map_toArray, List.map_cons, List.map_nil, hs, hx, hr]
  exact hK _ _ (h ad' cap' w' h2 h5 ⟨h3.os, h3.tape, h3.output, Nat.le_trans (by simp) h3.size, fun k hk hr => (h3.block k (by simp; omega) hr).trans (Below.heap_alloc w _ k hk)⟩)
end
end Go.Proofs.Ytindbmfccgeikaa
