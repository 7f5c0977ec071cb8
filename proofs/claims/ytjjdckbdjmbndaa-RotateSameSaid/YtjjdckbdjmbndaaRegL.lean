/- A region that draws its order, in a fence, in a round or not: what yields wherever S holds is taken first; S need not hold behind the last operation. Of no program. -/
import Derived.Test.YtjjdckbdjmbndaaSeq
namespace Go.Proofs.Ytjjdckbdjmbndaa
set_option linter.unusedSimpArgs false
set_option linter.unusedVariables false
open Go.RowKit

/-- 'append(out, x)': x lies in the block that has just been laid -/
theorem push_run {P : Program} {w : World} {t e : Nat} {z : Value} {sz bytes lo : Nat} (T : ElTy P t e z sz bytes) (ty : TypeId) {ad : Option Addr} {n cap : Nat} {xs ys : List Value}
    (hown : Own w e sz lo ad n cap xs) (hl : ys.length = sz) (h1 : ∀ u ∈ ys, u.oneCell' = true) (h63 : n + 1 ≤ maxLen) (hby : (n + 1) * bytes ≤ 140737488355328) (hlo : lo ≤ w.heap.size) :
    ∃ ad' cap' w', (Builtin.append_ #[t, t] ty #[.slice ad n cap, .slice (some ⟨w.heap.size, 0, none⟩) 1 1]).run P (w.alloc (.cells ys.toArray e)) = .ok (.slice ad' (n + 1) cap') w' ∧ Own w' e sz lo ad' (n + 1) cap' (xs ++ ys) ∧ w.grownBy w' (bOf ad) ∧
      (∀ g, ad' = some ⟨g, 0, none⟩ → ad = some ⟨g, 0, none⟩ ∨ w.heap.size ≤ g) := by
  obtain ⟨ad', cap', w', hr, h2, h3, h4⟩ := run_app (P := P) T ty (hown.alloc (.cells ys.toArray e)) (Rd.row w e sz 1 ys (by omega) (by decide) h1) h63 hby (by simp; omega)
  refine ⟨ad', cap', w', hr, h2, ⟨h3.os, h3.tape, h3.output, Nat.le_trans (by simp) h3.size, fun k hk hr => (h3.block k (by simp; omega) hr).trans (Below.heap_alloc w _ k hk)⟩, fun g hg => ?_⟩
  rcases h4 g hg with h | h
  · exact .inl h
  · right; simp at h; omega

section
variable {F : Fence} {n : Nat} {P : Program} {ops : Array Oper} {Q : Exit → Act → World → Prop} {md : Region.Mode} {S : World → Prop}

/-- does it wait for all others? -/
def lastB (md : Region.Mode) (ops : Array Oper) (j : Nat) : Bool :=
  match ops[j]? with
  | some o => (List.range ops.size).all fun k => k == j || o.after.any fun e => Region.binds md e && e.on == k
  | none => false
theorem lastB_waits {j i : Nat} {oj oi : Oper} (hj : ops[j]? = some oj) (hi : ops[i]? = some oi) (hji : j ≠ i) (h : lastB md ops j = true) : ∃ e ∈ oj.after, Region.binds md e = true ∧ e.on = i := by
  simp only [lastB, hj, List.all_eq_true, List.mem_range] at h
  have h2 := h i (Array.getElem?_eq_some_iff.1 hi).1
  rw [Bool.or_eq_true, beq_iff_eq, Array.any_eq_true'] at h2
  rcases h2 with h2 | ⟨e, he, h3⟩
  · exact absurd h2.symm hji
  · rw [Bool.and_eq_true, beq_iff_eq] at h3; exact ⟨e, he, h3⟩

/-- the region's rest, in whatever order; S holds all along -/
def AnyL (F : Fence) (n : Nat) (P : Program) (md : Region.Mode) (ops : Array Oper) (Q : Exit → Act → World → Prop) (S : World → Prop) : Nat → Array Bool → Act → World → Prop
  | 0, listed, a, w => Region.ready md ops listed = [] ∧ Q .normal a w
  | k + 1, listed, a, w => (Region.ready md ops listed = [] → Q .normal a w) ∧
      ∀ i ∈ Region.ready md ops listed, wpOpIn F n P ops Q i (fun a' w' => (lastB md ops i = false → S w') ∧ AnyL F n P md ops Q S k (listed.setIfInBounds i true) a' w') a w

theorem AnyL.any : ∀ (k : Nat) (listed : Array Bool) (a : Act) (w : World), AnyL F n P md ops Q S k listed a w → wpAnyIn F n P md ops Q k listed a w
  | 0, _, _, _, h => h
  | k + 1, _, _, _, h => ⟨h.1, fun i hi => wpOpIn_mono (fun a' w' h' => AnyL.any k _ a' w' h'.2) (h.2 i hi)⟩

/-- it yields v wherever S holds, and calls nothing -/
def GivesL (P : Program) (ops : Array Oper) (S : World → Prop) (o : Oper) (v : Value) (a : Act) : Prop :=
  (Region.wanted o (yielded ops a.tmps) = true ∧ ∀ w, S w → (execOp a.eval o).run P w = .ok (.value v) w) ∧ ∀ w, o.about P w a.eval = none

theorem GivesL.opIn {i : Nat} {o : Oper} {v : Value} {a : Act} (hi : ops[i]? = some o) (hnd : ∀ c, o.op ≠ .defer c) (hy : GivesL P ops S o v a) {K : Act → World → Prop} {w : World} (hS : S w) (h : K (a.put o.dst v) w) : wpOpIn F n P ops Q i K a w := by
  unfold wpOpIn
  simp only [hi]
  rw [if_pos hy.1.1]
  unfold Oper.wpIn
  refine ⟨fun f hf => (by rw [hy.2 w] at hf; cases hf), ?_⟩
  rw [Oper.semAt_plain F _ _ hnd, hy.1.2 w hS]
  exact h

theorem GivesL.put {o oj : Oper} {v : Value} {a : Act} (hs : ∀ cs b, o.op ≠ .select cs b) (hy : GivesL P ops S o v a) (h3 : ∀ d, oj.dst = some d → d ∉ o.looksAt ops) (u : Value) : GivesL P ops S o v (a.put oj.dst u) :=
  ⟨⟨by rw [wanted_put o a oj.dst u h3]; exact hy.1.1, fun w hw => by rw [execOp_put o hs a oj.dst u h3]; exact hy.1.2 w hw⟩, fun w => by rw [about_put o w a oj.dst u h3]; exact hy.2 w⟩

theorem opIn_putL {j : Nat} {oi oj : Oper} {v : Value} (hj : ops[j]? = some oj) (hap : oi.apart ops oj = true) (hnd : ∀ c, oj.op ≠ .defer c)
    (hsi : ∀ cs b, oi.op ≠ .select cs b) (hsj : ∀ cs b, oj.op ≠ .select cs b) (hQ : ∀ c a w, Q (.panic c) (a.put oi.dst v) w → Q (.panic c) a w) {K : Act → World → Prop} {a : Act} {w : World}
    (hy : GivesL P ops S oi v a) (h : wpOpIn F n P ops Q j K (a.put oi.dst v) w) : wpOpIn F n P ops Q j (fun a' w' => GivesL P ops S oi v a' ∧ K (a'.put oi.dst v) w') a w := by
  obtain ⟨h1, h2, h3⟩ := Oper.apart_spec hap
  have keep := fun u => hy.put hsi h3 u
  unfold wpOpIn at *
  simp only [hj] at *
  rw [wanted_put oj a oi.dst v h1, about_put oj w a oi.dst v h1] at h
  split
  · rename_i hw
    simp only [hw, if_true] at h
    unfold Oper.wpIn at *
    rw [about_put oj w a oi.dst v h1] at h
    refine ⟨h.1, ?_⟩
    have h := h.2
    rw [Oper.semAt_plain F _ _ hnd, execOp_put oj hsj a oi.dst v h1] at h
    rw [Oper.semAt_plain F _ _ hnd]
    generalize (execOp a.eval oj).run P w = r at *
    cases r with
    | ok x w' =>
      cases x <;> simp only [Oper.uponIn] at h ⊢
      case value u => exact ⟨keep u, by rw [← Act.put_comm a v u h2]; exact h⟩
      case skip => exact ⟨keep _, by rw [← Act.put_comm a v undef h2]; exact h⟩
      case enter f args =>
        refine ⟨h.1, CallsIn.mono h.2 fun e w'' he => ?_⟩
        cases e with
        | returned u => exact ⟨keep u, by rw [← Act.put_comm a v u h2]; exact he⟩
        | panicked c => exact hQ _ _ _ he
        | outgrown => exact he
      case row row args => exact ⟨h.1, RowsIn.mono h.2 fun u w'' he => ⟨keep u, by rw [← Act.put_comm a v u h2]; exact he⟩⟩
      case round l f tmps assign body =>
        refine ⟨h.1, RoundIn.mono h.2 fun e w'' he => ?_⟩
        cases e with
        | returned u => exact ⟨keep u, by rw [← Act.put_comm a v u h2]; exact he⟩
        | panicked c => exact hQ _ _ _ he
        | outgrown => exact he
      case defer d =>
        have hyD : GivesL P ops S oi v { a with defers := d :: a.defers } := hy
        refine ⟨hyD.put hsi h3 _, ?_⟩
        rw [← Act.put_comm _ v undef h2, ← Act.put_defers]
        exact h
    | halt x w' =>
      cases x <;> simp only [Oper.uponIn] at h ⊢
      case panic u => exact hQ _ _ _ h
  · rename_i hw
    simp only [hw] at h
    exact ⟨h.1, keep _, by rw [← Act.put_comm a v undef h2]; exact h.2⟩

theorem AnyL.first {i : Nat} {oi : Oper} {v : Value} (hi : ops[i]? = some oi) (hnd : ∀ (j : Nat) (o : Oper) c, ops[j]? = some o → o.op ≠ .defer c) (hsel : ∀ (j : Nat) (o : Oper) cs b, ops[j]? = some o → o.op ≠ .select cs b)
    (hQ : ∀ c a w, Q (.panic c) (a.put oi.dst v) w → Q (.panic c) a w) :
    ∀ (fuel : Nat) (listed : Array Bool) (a : Act) (w : World), S w →
      (∀ j oj, ops[j]? = some oj → j ≠ i → listed.getD j true = false → (∀ e ∈ oj.after, Region.binds md e = true → e.on ≠ i) → oi.apart ops oj = true) →
      i ∈ Region.ready md ops listed → GivesL P ops S oi v a →
      AnyL F n P md ops Q S fuel (listed.setIfInBounds i true) (a.put oi.dst v) w → AnyL F n P md ops Q S (fuel + 1) listed a w := by
  intro fuel
  induction fuel with
  | zero =>
    intro listed a w hS _ hr hy H
    refine ⟨fun h => (by rw [h] at hr; cases hr), fun j hj => ?_⟩
    by_cases hji : j = i
    · subst hji; exact hy.opIn hi (fun c => hnd _ _ c hi) hS ⟨fun _ => hS, H⟩
    · have := ready_mono hj hji
      rw [H.1] at this
      cases this
  | succ fuel ih =>
    intro listed a w hS hfree hr hy H
    refine ⟨fun h => (by rw [h] at hr; cases hr), fun j hj => ?_⟩
    by_cases hji : j = i
    · subst hji; exact hy.opIn hi (fun c => hnd _ _ c hi) hS ⟨fun _ => hS, H⟩
    · have h1 := H.2 j (ready_mono hj hji)
      obtain ⟨hjun, oj, hoj, hall⟩ := mem_ready.1 hj
      have hnot : ∀ e ∈ oj.after, Region.binds md e = true → e.on ≠ i := fun e he hb heq => by
        have h1 := hall e he hb
        have h0 := (mem_ready.1 hr).1
        rw [heq] at h1
        rcases Nat.lt_or_ge i listed.size with h' | h'
        · simp [h'] at h0 h1; rw [h0] at h1; cases h1
        · simp [Array.getElem?_eq_none h'] at h1
      have h2 := opIn_putL hoj (hfree j oj hoj hji hjun hnot) (fun c => hnd _ _ c hoj) (fun cs b => hsel i oi cs b hi) (fun cs b => hsel j oj cs b hoj) hQ hy h1
      have hfree' : ∀ k ok, ops[k]? = some ok → k ≠ i → (listed.setIfInBounds j true).getD k true = false →
          (∀ e ∈ ok.after, Region.binds md e = true → e.on ≠ i) → oi.apart ops ok = true := fun k ok hk hki hun hno => by
        refine hfree k ok hk hki ?_ hno
        by_cases hjk : j = k
        · subst hjk; exact hjun
        · rw [getD_set_ne true hjk] at hun; exact hun
      refine wpOpIn_mono (fun a' w' h3 => by
        have hr' := ready_mono hr (Ne.symm hji)
        have hS' := h3.2.1 (by
          cases hlb : lastB md ops j with
          | false => rfl
          | true => obtain ⟨e, he, hb, heq⟩ := lastB_waits hoj hi hji hlb; exact absurd heq (hnot e he hb))
        refine ⟨fun _ => hS', ih (listed.setIfInBounds j true) a' w' hS' hfree' hr' h3.1 ?_⟩
        rw [Array.setIfInBounds_comm _ _ hji]
        exact h3.2.2) h2

/-- no operation of the region is a 'defer' -/
def noDeferL (ops : Array Oper) : Bool := ops.all fun o => match o.op with | .defer _ => false | _ => true
theorem noDeferL_spec (h : noDeferL ops = true) (j : Nat) (o : Oper) (c : _) (ho : ops[j]? = some o) : o.op ≠ .defer c := by
  intro heq
  have := Array.all_eq_true_iff_forall_mem.1 h o (Array.mem_of_getElem? ho)
  simp [heq] at this

theorem AnyL.take {i : Nat} {oi : Oper} {v : Value} {fuel : Nat} {listed : Array Bool} {a : Act} {w : World} (hi : ops[i]? = some oi)
    (hs : Region.noSelect ops = true) (hd : noDeferL ops = true) (hf : Region.free md ops listed i = true) (hr : (Region.ready md ops listed).contains i = true)
    (hQ : ∀ c a w, Q (.panic c) (a.put oi.dst v) w → Q (.panic c) a w) (hS : S w) (hw : Region.wanted oi (yielded ops a.tmps) = true) (hab : ∀ w, oi.about P w a.eval = none) (hy : ∀ w, S w → (execOp a.eval oi).run P w = .ok (.value v) w)
    (h : AnyL F n P md ops Q S fuel (listed.setIfInBounds i true) (a.put oi.dst v) w) : AnyL F n P md ops Q S (fuel + 1) listed a w :=
  AnyL.first hi (noDeferL_spec hd) (Region.noSelect_spec hs) hQ fuel listed a w hS (Region.free_spec hi hf) (by simpa using hr) ⟨⟨hw, hy⟩, hab⟩ h

theorem AnyL.only {i : Nat} {o : Oper} {fuel : Nat} {listed : Array Bool} {a : Act} {w : World} (hr : Region.ready md ops listed = [i]) (ho : ops[i]? = some o) (hw : Region.wanted o (yielded ops a.tmps) = true)
    (h : ∀ K : Act → World → Prop, Hid (∀ a w, (lastB md ops i = false → S w) → AnyL F n P md ops Q S fuel (listed.setIfInBounds i true) a w → K a w) → Oper.wpIn F n P o a w K Q) : AnyL F n P md ops Q S (fuel + 1) listed a w := by
  refine ⟨fun h0 => (by rw [hr] at h0; cases h0), fun j hj => ?_⟩
  rw [hr] at hj
  obtain rfl : j = i := by simpa using hj
  unfold wpOpIn
  rw [ho]
  simp only [hw, if_true]
  exact h _ fun a w hS hA => ⟨hS, hA⟩

/-- a forced operation that yields a value -/
theorem AnyL.run1 {i : Nat} {o : Oper} {fuel : Nat} {listed : Array Bool} {a : Act} {w w' : World} {v : Value} (hr : Region.ready md ops listed = [i]) (ho : ops[i]? = some o) (hw : Region.wanted o (yielded ops a.tmps) = true)
    (hF : ∀ f, F.fn f) (hnd : ∀ c, o.op ≠ .defer c) (hrun : (execOp a.eval o).run P w = .ok (.value v) w') (hS : S w') (h : AnyL F n P md ops Q S fuel (listed.setIfInBounds i true) (a.put o.dst v) w') : AnyL F n P md ops Q S (fuel + 1) listed a w :=
  AnyL.only hr ho hw fun K hK => by
    refine ⟨fun f _ => hF f, ?_⟩
    rw [Oper.semAt_plain F _ _ hnd, hrun]
    exact hK.out _ _ (fun _ => hS) h

theorem AnyL.done {listed : Array Bool} {a : Act} {w : World} (hr : Region.ready md ops listed = []) (h : Q .normal a w) : ∀ fuel, AnyL F n P md ops Q S fuel listed a w
  | 0 => ⟨hr, h⟩
  | _ + 1 => ⟨fun _ => h, by rw [hr]; simp⟩

theorem regionL (S : World → Prop) {id : Nat} {a : Act} {w : World} (hm : P.follows .mixedOrders = true)
    (h : AnyL F n P .any ops Q S ops.size (Array.replicate ops.size false) a w.drew) : (Code.region id ops true).wpIn F n P Q a w :=
  wpIn_region_any hm (AnyL.any _ _ _ _ h)

end
end Go.Proofs.Ytjjdckbdjmbndaa
