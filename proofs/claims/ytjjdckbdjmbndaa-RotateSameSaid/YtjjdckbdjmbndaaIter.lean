/- Ranges over functions: what the walks of this seat share. Of no program. -/
import Derived.Test.YtjjdckbdjmbndaaLib
import Derived.RangeFuncNested
import Derived.RangeFuncBound
import Derived.RangeFuncCalls
import Derived.RangeFuncLeaves
import Derived.Shelf.Abstract
import Derived.Shelf.RegionOpen
import Derived.OwnWalkIn
import Derived.TacticsInMore
import Derived.LoopNIn
import Derived.LoopIn
import Derived.Laws.EntriesVeiled
namespace Go.Proofs.Ytjjdckbdjmbndaa
set_option linter.unusedSimpArgs false
set_option linter.unusedVariables false
open Go.RowKit

section
variable {F : Fence} {m : Nat} {P : Program} {w : World} {ops : Array Oper} {rest : List Oper} {o : Oper} {a : Act} {Q : Exit → Act → World → Prop}

/-- what an append is, as the operation's own run -/
theorem exec_append {s x : Operand} {t : TypeId} (ho : o.op = .call { callee := .builtin .append, args := #[s, x], argTypes := #[t, t] }) {v v' : Value} {w' : World} (hs : a.eval s = v) {vx : Value} (hx : a.eval x = vx)
    (hr : (Builtin.append_ #[t, t] o.type #[v, vx]).run P w = .ok v' w') : (execOp a.eval o).run P w = .ok (.value v') w' := by
  unfold execOp
  simp only [ho, resolve, invoke, builtin, Sem.run_bind, Sem.run_pure, Result.andThen_ok, List.map_toArray, List.map_cons, List.map_nil, hs, hx, hr]

/-- an operation that yields a value, in a round -/
theorem wpListIn_run (hF : ∀ f, F.fn f) (hw : Region.wanted o (yielded ops a.tmps) = true) (hnd : ∀ c, o.op ≠ .defer c) {v : Value} {w' : World} (hr : (execOp a.eval o).run P w = .ok (.value v) w')
    (h : wpListIn F m P ops Q rest (a.put o.dst v) w') : wpListIn F m P ops Q (o :: rest) a w := by
  unfold wpListIn
  rw [if_pos hw]
  refine ⟨fun f _ => hF f, ?_⟩
  rw [Oper.semAt_plain F _ _ hnd, hr]
  exact h

/-- 'append(out, x)' in a round -/
theorem wpListIn_push (hF : ∀ f, F.fn f) (hgd : Region.wanted o (yielded ops a.tmps) = true) (s x : Operand) (t : TypeId) (ho : o.op = .call { callee := .builtin .append, args := #[s, x], argTypes := #[t, t] })
    {e : Nat} {z : Value} {sz bytes lo : Nat} (T : ElTy P t e z sz bytes) {ad : Option Addr} {n cap : Nat} {xs ys : List Value}
    (hs : a.eval s = .slice ad n cap) (hx : a.eval x = .slice (some ⟨w.heap.size, 0, none⟩) 1 1) (hown : Own w e sz lo ad n cap xs)
    (hl : ys.length = sz) (h1 : ∀ u ∈ ys, u.oneCell' = true)
    (h63 : n + 1 ≤ maxLen) (hby : (n + 1) * bytes ≤ 140737488355328) (hlo : lo ≤ w.heap.size)
    (h : ∀ ad' cap' w', Own w' e sz lo ad' (n + 1) cap' (xs ++ ys) → w.grownBy w' (bOf ad) → (∀ g, ad' = some ⟨g, 0, none⟩ → ad = some ⟨g, 0, none⟩ ∨ w.heap.size ≤ g) →
      wpListIn F m P ops Q rest (a.put o.dst (.slice ad' (n + 1) cap')) w') : wpListIn F m P ops Q (o :: rest) a (w.alloc (.cells ys.toArray e)) := by
  obtain ⟨ad', cap', w', hr, h2, h3, h4⟩ := run_app (P := P) T o.type (hown.alloc (.cells ys.toArray e)) (Rd.row w e sz 1 ys (by omega) (by decide) h1) h63 hby (by simp; omega)
  refine wpListIn_run hF hgd (fun c hc => by rw [ho] at hc; cases hc) (exec_append ho hs hx hr) (h ad' cap' w' h2 ?_ ?_)
  · exact ⟨h3.os, h3.tape, h3.output, Nat.le_trans (by simp) h3.size, fun k hk hr => (h3.block k (by simp; omega) hr).trans (Below.heap_alloc w _ k hk)⟩
  · intro g hg
    rcases h4 g hg with h | h
    · exact .inl h
    · right; simp at h; omega

/-- 'append(out, src...)' in a round -/
theorem wpListIn_app (hF : ∀ f, F.fn f) (hgd : Region.wanted o (yielded ops a.tmps) = true) (s x : Operand) (t : TypeId) (ho : o.op = .call { callee := .builtin .append, args := #[s, x], argTypes := #[t, t] })
    {e : Nat} {z : Value} {sz bytes lo : Nat} (T : ElTy P t e z sz bytes) {ad sd : Option Addr} {n cap k c : Nat} {xs ys : List Value}
    (hs : a.eval s = .slice ad n cap) (hx : a.eval x = .slice sd k c) (hown : Own w e sz lo ad n cap xs) (hsrc : Rd w sz sd k c ys)
    (h63 : n + k ≤ maxLen) (hby : (n + k) * bytes ≤ 140737488355328) (hlo : lo ≤ w.heap.size)
    (h : ∀ ad' cap' w', Own w' e sz lo ad' (n + k) cap' (xs ++ ys) → w.grownBy w' (bOf ad) → (∀ g, ad' = some ⟨g, 0, none⟩ → ad = some ⟨g, 0, none⟩ ∨ w.heap.size ≤ g) →
      wpListIn F m P ops Q rest (a.put o.dst (.slice ad' (n + k) cap')) w') : wpListIn F m P ops Q (o :: rest) a w := by
  obtain ⟨ad', cap', w', hr, h2, h3, h4⟩ := run_app (P := P) T o.type hown hsrc h63 hby hlo
  exact wpListIn_run hF hgd (fun c hc => by rw [ho] at hc; cases hc) (exec_append ho hs hx hr) (h ad' cap' w' h2 h3 h4)

/-- 'make([]T, n)' in a fence, T of one cell -/
theorem wpListIn_mk (hF : ∀ f, F.fn f) (hgd : Region.wanted o (yielded ops a.tmps) = true) (l c : Operand) (t : TypeId) (ho : o.op = .makeSlice t l c) {e : Nat} {z : Value} {bytes : Nat} (T : ElTy P t e z 1 bytes) (hz1 : z.cells = #[z]) (hzc : z.oneCell' = true) {kl kc : IntKind} {L C : Int} (n : Nat)
    (hl : a.eval l = .int kl L) (hc : a.eval c = .int kc C) (hL : L = (n : Int)) (hC : C = (n : Int)) (h63 : n ≤ maxLen) (hby : bytes * n ≤ 281474976710656)
    (h : ∀ w', Own w' e 1 w.heap.size (some ⟨w.heap.size, 0, none⟩) n n (List.replicate n z) → Below w.heap.size w w' → Hid (w'.heap.size = w.heap.size + 1) →
      wpListIn F m P ops Q rest (a.put o.dst (.slice (some ⟨w.heap.size, 0, none⟩) n n)) w') : wpListIn F m P ops Q (o :: rest) a w := by
  obtain ⟨i, hi, hz, hsz, hbt⟩ := T.inf
  subst hL; subst hC; subst hbt
  have h63' : (n : Int) ≤ 9223372036854775807 := by
    have h := h63
    simp only [maxLen] at h
    omega
  have hb' : (i.bytes : Int) * (n : Int) ≤ 281474976710656 := by
    have h : ((i.bytes * n : Nat) : Int) ≤ 281474976710656 := by omega
    rwa [Int.natCast_mul] at h
  have hr := run_make (P := P) w t e i z T.und hi hz kl kc n n (by omega) (Int.le_refl _) hb' h63'
  simp only [Int.toNat_natCast, hsz, hz1, Nat.mul_one] at hr
  refine wpListIn_run hF hgd (fun c hc => by rw [ho] at hc; cases hc) (v := .slice (some ⟨w.heap.size, 0, none⟩) n n) (w' := w.alloc (.cells (madeCells #[z] n) e)) ?_ (h _ ⟨?_, ?_⟩ ((Below.refl _ w).alloc (Nat.le_refl _) _) (by show _ = _; simp))
  · unfold execOp
    simp only [ho, hl, hc, Sem.run_bind, hr, Result.andThen_ok]
    rfl
  · have := World.ownsRow_lit (e := e) (size := 1) (base := w.heap.size) w (madeCells #[z] n) n (Nat.le_refl _) h63 (by rw [size_madeCells]; omega)
    rw [toList_madeCells_one] at this; exact this
  · intro u hu; rw [List.eq_of_mem_replicate hu]; exact hzc
end

/-- what has come when k rounds are over: f 0, .., f (k - 1) -/
def upto {α : Type} (f : Nat → α) (k : Nat) : List α := (List.range k).map f
theorem upto_succ {α : Type} (f : Nat → α) (k : Nat) : upto f (k + 1) = upto f k ++ [f k] := by simp [upto, List.range_succ]
theorem upto_length {α : Type} (f : Nat → α) (k : Nat) : (upto f k).length = k := by simp [upto]

end Go.Proofs.Ytjjdckbdjmbndaa
