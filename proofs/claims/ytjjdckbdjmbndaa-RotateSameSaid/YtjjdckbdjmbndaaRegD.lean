/- A region that draws, in a fence: the same takes with the slot said. Of no program. -/
import Derived.Test.YtjjdckbdjmbndaaRegT
namespace Go.Proofs.Ytjjdckbdjmbndaa
set_option linter.unusedSimpArgs false
set_option linter.unusedVariables false
open Go.RowKit

section
variable {F : Fence} {n : Nat} {P : Program} {ops : Array Oper} {Q : Exit → Act → World → Prop} {md : Region.Mode} {T : List Nat} {S : World → Prop}
theorem Act.put_some (a : Act) (d : Nat) (v : Value) : a.put (some d) v = { a with tmps := a.tmps.setIfInBounds d v } := rfl
theorem AnyT.takeD (d : Nat) {i : Nat} {oi : Oper} {v : Value} {fuel : Nat} {listed : Array Bool} {tmps : Array Value} {df : List Deferred} {w : World} (hiT : i ∈ T) (hcl : closedB md ops listed = true) (hi : ops[i]? = some oi) (hdst : oi.dst = some d)
    (hs : Region.noSelect ops = true) (hd : noDeferT ops = true) (hf : Region.free md ops listed i = true) (hr : (Region.ready md ops listed).contains i = true)
    (hQ : ∀ c a w, Q (.panic c) (a.put (some d) v) w → Q (.panic c) a w) (hS : S w) (hw : Region.wanted oi (yielded ops tmps) = true) (hab : ∀ w, oi.about P w (⟨tmps, df⟩ : Act).eval = none) (hy : ∀ w, S w → (execOp (⟨tmps, df⟩ : Act).eval oi).run P w = .ok (.value v) w)
    (h : AnyT F n P md ops Q T S fuel (listed.setIfInBounds i true) ⟨tmps.setIfInBounds d v, df⟩ w) : AnyT F n P md ops Q T S (fuel + 1) listed ⟨tmps, df⟩ w :=
  AnyT.take hiT hcl hi hs hd hf hr (by rw [hdst]; exact hQ) hS hw hab hy (by rw [hdst]; exact h)
theorem AnyT.skipD (d : Nat) {i : Nat} {oi : Oper} {fuel : Nat} {listed : Array Bool} {tmps : Array Value} {df : List Deferred} {w : World} (hiT : i ∈ T) (hcl : closedB md ops listed = true) (hi : ops[i]? = some oi) (hdst : oi.dst = some d)
    (hs : Region.noSelect ops = true) (hd : noDeferT ops = true) (hf : Region.free md ops listed i = true) (hr : (Region.ready md ops listed).contains i = true)
    (hQ : ∀ c a w, Q (.panic c) (a.put (some d) undef) w → Q (.panic c) a w) (hS : S w) (hw : Region.wanted oi (yielded ops tmps) = false) (hab : ∀ w, oi.about P w (⟨tmps, df⟩ : Act).eval = none)
    (h : AnyT F n P md ops Q T S fuel (listed.setIfInBounds i true) ⟨tmps.setIfInBounds d undef, df⟩ w) : AnyT F n P md ops Q T S (fuel + 1) listed ⟨tmps, df⟩ w :=
  AnyT.skip hiT hcl hi hs hd hf hr (by rw [hdst]; exact hQ) hS hw hab (by rw [hdst]; exact h)
end
end Go.Proofs.Ytjjdckbdjmbndaa
