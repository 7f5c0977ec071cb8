/- Two appends in one statement, in whatever order. Of no program. -/
import Derived.Test.YtlmpooibpopcaaaRegT
import Derived.Test.YtlmpooibpopcaaaMore
import Derived.Test.YtlmpooibpopcaaaNat
namespace Go.Proofs.Ytlmpooibpopcaaa
set_option linter.unusedSimpArgs false
set_option linter.unusedVariables false
open Go.RowKit

section
variable {F : Fence} {n : Nat} {P : Program} {ops : Array Oper} {Q : Exit → Act → World → Prop} {md : Region.Mode} {S : World → Prop}
theorem wpIn_run1 {o : Oper} {a : Act} {w w' : World} {v : Value} {K : Act → World → Prop} (hF : ∀ f, F.fn f) (hnd : ∀ c, o.op ≠ .defer c) (hrun : (execOp a.eval o).run P w = .ok (.value v) w') (h : K (a.put o.dst v) w') : Oper.wpIn F n P o a w K Q := by
  refine ⟨fun f _ => hF f, ?_⟩
  rw [Oper.semAt_plain F _ _ hnd, hrun]
  exact h
end

section
variable {P : Program}
theorem own_keeps {W W' : World} {e sz lo : Nat} {ad : Option Addr} {m cap : Nat} {cs : List Value} (h : Own W e sz lo ad m cap cs) (g : W.grownBy W' (bOf ad)) : KeepsOthers W W' :=
  KeepsOthers.of_grownBy g fun j o hj ho => by
    obtain ⟨_, hc⟩ := h.cases
    rcases hc with ⟨h, _⟩ | ⟨x, cur, h, hb, hcur, _⟩
    · rw [h] at hj; cases hj
    · rw [h] at hj; cases hj; rw [hcur] at ho; cases ho; rfl
/-- one append of one number: what the world is behind it -/
theorem push_one {t e : Nat} {z : Value} {bytes : Nat} (T : ElTy P t e z 1 bytes) (ty : TypeId) {W : World} {M : Nat} {ad : Option Addr} {k cap : Nat} {xs : List Value} {s : Nat} {v : Value}
    (ho : Own W e 1 M ad k cap xs) (hs : Rd W 1 (some ⟨s, 0, none⟩) 1 1 [v]) (h63 : k + 1 ≤ maxLen) (hby : (k + 1) * bytes ≤ 140737488355328) (hM : M ≤ W.heap.size) :
    ∃ a' c' W', (Builtin.append_ #[t, t] ty #[.slice ad k cap, .slice (some ⟨s, 0, none⟩) 1 1]).run P W = .ok (.slice a' (k + 1) c') W' ∧ Own W' e 1 M a' (k + 1) c' (xs ++ [v]) ∧ W.grownBy W' (bOf ad) ∧ Below M W W' ∧ KeepsOthers W W' ∧
      (∀ g, a' = some ⟨g, 0, none⟩ → ad = some ⟨g, 0, none⟩ ∨ W.heap.size ≤ g) := by
  obtain ⟨a', c', W', hr, h2, h3, h4⟩ := run_app (P := P) T ty ho hs h63 hby hM
  exact ⟨a', c', W', hr, h2, h3, Own.grown (Below.refl M W) ho h3 hM (Nat.le_refl _), own_keeps ho h3, h4⟩

/-- behind both -/
def Both (W0 W4 : World) (e M : Nat) (aA aB : Option Addr) (k cA cB : Nat) (xs ys : List Value) : Prop :=
  Own W4 e 1 M aA (k + 1) cA xs ∧ Own W4 e 1 M aB (k + 1) cB ys ∧ Apart aA aB ∧ Below M W0 W4 ∧ KeepsOthers W0 W4

variable {t e : Nat} {z : Value} {bytes : Nat} (T : ElTy P t e z 1 bytes) (ty1 ty2 : TypeId) {W : World} {M : Nat} {aA aB : Option Addr} {k cA cB : Nat} {xs ys : List Value} {p q : Value}
  (oA : Own W e 1 M aA k cA xs) (oB : Own W e 1 M aB k cB ys) (ap : Apart aA aB) (hp : p.oneCell' = true) (hq : q.oneCell' = true) (h63 : k + 1 ≤ maxLen) (hby : (k + 1) * bytes ≤ 140737488355328) (hM : M ≤ W.heap.size)
include T oA oB ap hp hq h63 hby hM
/-- A made, A appended, B made, B appended -/
theorem both1 : ∃ a1 c1 W2 a2 c2 W4, (Builtin.append_ #[t, t] ty1 #[.slice aA k cA, .slice (some ⟨W.heap.size, 0, none⟩) 1 1]).run P (W.alloc (.cells #[p] e)) = .ok (.slice a1 (k + 1) c1) W2 ∧
    (Builtin.append_ #[t, t] ty2 #[.slice aB k cB, .slice (some ⟨W2.heap.size, 0, none⟩) 1 1]).run P (W2.alloc (.cells #[q] e)) = .ok (.slice a2 (k + 1) c2) W4 ∧ Below M W W2 ∧ Both W W4 e M a1 a2 k c1 c2 (xs ++ [p]) (ys ++ [q]) := by
  obtain ⟨a1, c1, W2, r1, o1, g1, b1, k1, n1⟩ := push_one T ty1 (oA.alloc (.cells #[p] e)) (Rd.row W e 1 1 [p] rfl (by decide) (by simpa using hp)) h63 hby (by simp; omega)
  have oB2 := (oB.alloc (.cells #[p] e)).apart g1 ap oA.shape
  have ap2 : Apart a1 aB := Apart.grow ap (oB.alloc (.cells #[p] e)) n1
  have hM2 : M ≤ W2.heap.size := Nat.le_trans (by simp; omega) b1.size
  obtain ⟨a2, c2, W4, r2, o2, g2, b2, k2, n2⟩ := push_one T ty2 (oB2.alloc (.cells #[q] e)) (Rd.row W2 e 1 1 [q] rfl (by decide) (by simpa using hq)) h63 hby (by simp; omega)
  have bW : Below M W W2 := ((Below.refl M W).alloc hM _).trans b1
  exact ⟨a1, c1, W2, a2, c2, W4, r1, r2, bW, (o1.alloc _).apart g2 ap2.symm oB.shape, o2, (Apart.grow ap2.symm (o1.alloc _) n2).symm, bW.trans (((Below.refl M W2).alloc hM2 _).trans b2), (((KeepsOthers.alloc W _).trans k1).trans (KeepsOthers.alloc W2 _)).trans k2⟩
/-- A made, B made, A appended, B appended -/
theorem both2 : ∃ a1 c1 W2 a2 c2 W4, (Builtin.append_ #[t, t] ty1 #[.slice aA k cA, .slice (some ⟨W.heap.size, 0, none⟩) 1 1]).run P ((W.alloc (.cells #[p] e)).alloc (.cells #[q] e)) = .ok (.slice a1 (k + 1) c1) W2 ∧
    (Builtin.append_ #[t, t] ty2 #[.slice aB k cB, .slice (some ⟨W.heap.size + 1, 0, none⟩) 1 1]).run P W2 = .ok (.slice a2 (k + 1) c2) W4 ∧ Below M W W2 ∧ Both W W4 e M a1 a2 k c1 c2 (xs ++ [p]) (ys ++ [q]) := by
  have sA : Rd ((W.alloc (.cells #[p] e)).alloc (.cells #[q] e)) 1 (some ⟨W.heap.size, 0, none⟩) 1 1 [p] := (Rd.row W e 1 1 [p] rfl (by decide) (by simpa using hp)).alloc _
  have sB : Rd ((W.alloc (.cells #[p] e)).alloc (.cells #[q] e)) 1 (some ⟨W.heap.size + 1, 0, none⟩) 1 1 [q] := by
    have := Rd.row (W.alloc (.cells #[p] e)) e 1 1 [q] rfl (by decide) (by simpa using hq)
    simpa using this
  obtain ⟨a1, c1, W2, r1, o1, g1, b1, k1, n1⟩ := push_one T ty1 ((oA.alloc (.cells #[p] e)).alloc (.cells #[q] e)) sA h63 hby (by simp; omega)
  have oB2 := ((oB.alloc (.cells #[p] e)).alloc (.cells #[q] e)).apart g1 ap oA.shape
  have ap2 : Apart a1 aB := Apart.grow ap ((oB.alloc (.cells #[p] e)).alloc (.cells #[q] e)) n1
  have hM2 : M ≤ W2.heap.size := Nat.le_trans (by simp; omega) b1.size
  have sB2 := sB.keep (w' := W2) fun a ha => by
    cases ha
    refine g1.block _ (by simp) fun e => ?_
    cases hA : aA with
    | none => rw [hA] at e; cases e
    | some x =>
      have := oA.shape x hA
      have := (oA.blk (g := x.block) (by rw [hA, ← this])).2
      rw [hA] at e; simp [bOf] at e; omega
  obtain ⟨a2, c2, W4, r2, o2, g2, b2, k2, n2⟩ := push_one T ty2 oB2 sB2 h63 hby hM2
  have bW : Below M W W2 := (((Below.refl M W).alloc hM _).alloc (by simp; omega) _).trans b1
  exact ⟨a1, c1, W2, a2, c2, W4, r1, r2, bW, o1.apart g2 ap2.symm oB.shape, o2, (Apart.grow ap2.symm o1 n2).symm, bW.trans b2, (((KeepsOthers.alloc W _).trans (KeepsOthers.alloc _ _)).trans k1).trans k2⟩
/-- B made, A made, A appended, B appended -/
theorem both3 : ∃ a1 c1 W2 a2 c2 W4, (Builtin.append_ #[t, t] ty1 #[.slice aA k cA, .slice (some ⟨W.heap.size + 1, 0, none⟩) 1 1]).run P ((W.alloc (.cells #[q] e)).alloc (.cells #[p] e)) = .ok (.slice a1 (k + 1) c1) W2 ∧
    (Builtin.append_ #[t, t] ty2 #[.slice aB k cB, .slice (some ⟨W.heap.size, 0, none⟩) 1 1]).run P W2 = .ok (.slice a2 (k + 1) c2) W4 ∧ Below M W W2 ∧ Both W W4 e M a1 a2 k c1 c2 (xs ++ [p]) (ys ++ [q]) := by
  have sB : Rd ((W.alloc (.cells #[q] e)).alloc (.cells #[p] e)) 1 (some ⟨W.heap.size, 0, none⟩) 1 1 [q] := (Rd.row W e 1 1 [q] rfl (by decide) (by simpa using hq)).alloc _
  have sA : Rd ((W.alloc (.cells #[q] e)).alloc (.cells #[p] e)) 1 (some ⟨W.heap.size + 1, 0, none⟩) 1 1 [p] := by
    have := Rd.row (W.alloc (.cells #[q] e)) e 1 1 [p] rfl (by decide) (by simpa using hp)
    simpa using this
  obtain ⟨a1, c1, W2, r1, o1, g1, b1, k1, n1⟩ := push_one T ty1 ((oA.alloc (.cells #[q] e)).alloc (.cells #[p] e)) sA h63 hby (by simp; omega)
  have oB2 := ((oB.alloc (.cells #[q] e)).alloc (.cells #[p] e)).apart g1 ap oA.shape
  have ap2 : Apart a1 aB := Apart.grow ap ((oB.alloc (.cells #[q] e)).alloc (.cells #[p] e)) n1
  have hM2 : M ≤ W2.heap.size := Nat.le_trans (by simp; omega) b1.size
  have sB2 := sB.keep (w' := W2) fun a ha => by
    cases ha
    refine g1.block _ (by simp; omega) fun e => ?_
    cases hA : aA with
    | none => rw [hA] at e; cases e
    | some x =>
      have := oA.shape x hA
      have := (oA.blk (g := x.block) (by rw [hA, ← this])).2
      rw [hA] at e; simp [bOf] at e; omega
  obtain ⟨a2, c2, W4, r2, o2, g2, b2, k2, n2⟩ := push_one T ty2 oB2 sB2 h63 hby hM2
  have bW : Below M W W2 := (((Below.refl M W).alloc hM _).alloc (by simp; omega) _).trans b1
  exact ⟨a1, c1, W2, a2, c2, W4, r1, r2, bW, o1.apart g2 ap2.symm oB.shape, o2, (Apart.grow ap2.symm o1 n2).symm, bW.trans b2, (((KeepsOthers.alloc W _).trans (KeepsOthers.alloc _ _)).trans k1).trans k2⟩
end
end Go.Proofs.Ytlmpooibpopcaaa
