/- A region that draws its order, in a fence, in a round or not: what yields wherever S holds is taken first; S need not hold behind the last operation. Of no program. -/
import Derived.Test.YtjjdckbdjmbndaaRegL
namespace Go.Proofs.Ytjjdckbdjmbndaa
set_option linter.unusedSimpArgs false
set_option linter.unusedVariables false
open Go.RowKit

section
variable {F : Fence} {n : Nat} {P : Program} {ops : Array Oper} {Q : Exit → Act → World → Prop} {md : Region.Mode} {T : List Nat} {S : World → Prop}

/-- does j wait for i, by way of others too? -/
def waitR (md : Region.Mode) (ops : Array Oper) (i : Nat) : Nat → Nat → Bool
  | 0, _ => false
  | f + 1, j => match ops[j]? with
    | some o => o.after.any fun e => Region.binds md e && (e.on == i || waitR md ops i f e.on)
    | none => false
/-- does it wait for all of some? -/
def waitB (md : Region.Mode) (ops : Array Oper) (T : List Nat) (j : Nat) : Bool := T.all fun k => k == j || waitR md ops k 4 j
/-- what is listed has all that it waits for listed -/
def Closed (md : Region.Mode) (ops : Array Oper) (listed : Array Bool) : Prop := ∀ j o, ops[j]? = some o → listed.getD j false = true → ∀ e ∈ o.after, Region.binds md e = true → listed.getD e.on false = true
def closedB (md : Region.Mode) (ops : Array Oper) (listed : Array Bool) : Bool := (List.range ops.size).all fun j => match ops[j]? with
  | some o => !listed.getD j false || o.after.all fun e => !Region.binds md e || listed.getD e.on false
  | none => true
theorem closedB_spec {listed : Array Bool} (h : closedB md ops listed = true) : Closed md ops listed := fun j o ho hl e he hb => by
  have hj : j < ops.size := (Array.getElem?_eq_some_iff.1 ho).1
  have := List.all_eq_true.1 h j (List.mem_range.2 hj)
  simp only [ho, hl, Bool.not_true, Bool.false_or] at this
  have := Array.all_eq_true_iff_forall_mem.1 this e he
  simpa [hb] using this
theorem waitR_false {i : Nat} {listed : Array Bool} (hc : Closed md ops listed) (hi : listed.getD i false = false) : ∀ (f j : Nat), (∀ o, ops[j]? = some o → ∀ e ∈ o.after, Region.binds md e = true → listed.getD e.on false = true) → waitR md ops i f j = false := by
  intro f
  induction f with
  | zero => intros; rfl
  | succ f ih =>
    intro j hj
    rw [waitR]
    split
    · rename_i o ho
      rw [Bool.eq_false_iff]
      intro h
      rw [Array.any_eq_true'] at h
      obtain ⟨e, he, h⟩ := h
      rw [Bool.and_eq_true, Bool.or_eq_true, beq_iff_eq] at h
      have h2 := hj o ho e he h.1
      rcases h.2 with h3 | h3
      · rw [h3, hi] at h2; cases h2
      · rw [ih e.on (fun o' ho' e' he' hb' => hc e.on o' ho' h2 e' he' hb')] at h3; cases h3
    · rfl
theorem Closed.set {j : Nat} {listed : Array Bool} (hc : Closed md ops listed) (hj : j ∈ Region.ready md ops listed) : Closed md ops (listed.setIfInBounds j true) := by
  obtain ⟨_, o, ho, hall⟩ := mem_ready.1 hj
  intro k u hu hl e he hb
  refine getD_set_true ?_
  by_cases hk : k = j
  · subst hk; rw [ho] at hu; cases hu; exact hall e he hb
  · exact hc k u hu (by rwa [getD_set_ne false (Ne.symm hk)] at hl) e he hb

/-- the region's rest, in whatever order; S holds all along -/
def AnyT (F : Fence) (n : Nat) (P : Program) (md : Region.Mode) (ops : Array Oper) (Q : Exit → Act → World → Prop) (T : List Nat) (S : World → Prop) : Nat → Array Bool → Act → World → Prop
  | 0, listed, a, w => Region.ready md ops listed = [] ∧ Q .normal a w
  | k + 1, listed, a, w => (Region.ready md ops listed = [] → Q .normal a w) ∧
      ∀ i ∈ Region.ready md ops listed, wpOpIn F n P ops Q i (fun a' w' => (waitB md ops T i = false → S w') ∧ AnyT F n P md ops Q T S k (listed.setIfInBounds i true) a' w') a w

theorem AnyT.any : ∀ (k : Nat) (listed : Array Bool) (a : Act) (w : World), AnyT F n P md ops Q T S k listed a w → wpAnyIn F n P md ops Q k listed a w
  | 0, _, _, _, h => h
  | k + 1, _, _, _, h => ⟨h.1, fun i hi => wpOpIn_mono (fun a' w' h' => AnyT.any k _ a' w' h'.2) (h.2 i hi)⟩

/-- it yields v wherever S holds, and calls nothing -/
def GivesT (P : Program) (ops : Array Oper) (S : World → Prop) (o : Oper) (v : Value) (a : Act) : Prop :=
  ((Region.wanted o (yielded ops a.tmps) = true ∧ ∀ w, S w → (execOp a.eval o).run P w = .ok (.value v) w) ∨ (Region.wanted o (yielded ops a.tmps) = false ∧ v = undef)) ∧ ∀ w, o.about P w a.eval = none

theorem GivesT.opIn {i : Nat} {o : Oper} {v : Value} {a : Act} (hi : ops[i]? = some o) (hnd : ∀ c, o.op ≠ .defer c) (hy : GivesT P ops S o v a) {K : Act → World → Prop} {w : World} (hS : S w) (h : K (a.put o.dst v) w) : wpOpIn F n P ops Q i K a w := by
  unfold wpOpIn
  simp only [hi]
  rcases hy.1 with ⟨h1, h2⟩ | ⟨h1, h2⟩
  · rw [if_pos h1]
    unfold Oper.wpIn
    refine ⟨fun f hf => (by rw [hy.2 w] at hf; cases hf), ?_⟩
    rw [Oper.semAt_plain F _ _ hnd, h2 w hS]
    exact h
  · rw [if_neg (by rw [h1]; decide)]
    exact ⟨fun f hf => (by rw [hy.2 w] at hf; cases hf), by rw [← h2]; exact h⟩

theorem GivesT.put {o oj : Oper} {v : Value} {a : Act} (hs : ∀ cs b, o.op ≠ .select cs b) (hy : GivesT P ops S o v a) (h3 : ∀ d, oj.dst = some d → d ∉ o.looksAt ops) (u : Value) : GivesT P ops S o v (a.put oj.dst u) :=
  ⟨hy.1.elim (fun h => .inl ⟨by rw [wanted_put o a oj.dst u h3]; exact h.1, fun w hw => by rw [execOp_put o hs a oj.dst u h3]; exact h.2 w hw⟩) (fun h => .inr ⟨by rw [wanted_put o a oj.dst u h3]; exact h.1, h.2⟩), fun w => by rw [about_put o w a oj.dst u h3]; exact hy.2 w⟩

theorem opIn_putT {j : Nat} {oi oj : Oper} {v : Value} (hj : ops[j]? = some oj) (hap : oi.apart ops oj = true) (hnd : ∀ c, oj.op ≠ .defer c)
    (hsi : ∀ cs b, oi.op ≠ .select cs b) (hsj : ∀ cs b, oj.op ≠ .select cs b) (hQ : ∀ c a w, Q (.panic c) (a.put oi.dst v) w → Q (.panic c) a w) {K : Act → World → Prop} {a : Act} {w : World}
    (hy : GivesT P ops S oi v a) (h : wpOpIn F n P ops Q j K (a.put oi.dst v) w) : wpOpIn F n P ops Q j (fun a' w' => GivesT P ops S oi v a' ∧ K (a'.put oi.dst v) w') a w := by
  obtain ⟨h1, h2, h3⟩ := Oper.apart_spec hap
  have keep := fun u => hy.put hsi h3 u
  unfold wpOpIn at *
  simp only [hj] at *
  rw [wanted_put oj a oi.dst v h1, about_put oj w a oi.dst v h1] at h
  split
  · rename_i hw
    simp only [hw, if_true] at h
    unfold Oper.wpIn at *
    rw [about_put oj w a oi.dst v h1] at h
    refine ⟨h.1, ?_⟩
    have h := h.2
    rw [Oper.semAt_plain F _ _ hnd, execOp_put oj hsj a oi.dst v h1] at h
    rw [Oper.semAt_plain F _ _ hnd]
    generalize (execOp a.eval oj).run P w = r at *
    cases r with
    | ok x w' =>
      cases x <;> simp only [Oper.uponIn] at h ⊢
      case value u => exact ⟨keep u, by rw [← Act.put_comm a v u h2]; exact h⟩
      case skip => exact ⟨keep _, by rw [← Act.put_comm a v undef h2]; exact h⟩
      case enter f args =>
        refine ⟨h.1, CallsIn.mono h.2 fun e w'' he => ?_⟩
        cases e with
        | returned u => exact ⟨keep u, by rw [← Act.put_comm a v u h2]; exact he⟩
        | panicked c => exact hQ _ _ _ he
        | outgrown => exact he
      case row row args => exact ⟨h.1, RowsIn.mono h.2 fun u w'' he => ⟨keep u, by rw [← Act.put_comm a v u h2]; exact he⟩⟩
      case round l f tmps assign body =>
        refine ⟨h.1, RoundIn.mono h.2 fun e w'' he => ?_⟩
        cases e with
        | returned u => exact ⟨keep u, by rw [← Act.put_comm a v u h2]; exact he⟩
        | panicked c => exact hQ _ _ _ he
        | outgrown => exact he
      case defer d =>
        have hyD : GivesT P ops S oi v { a with defers := d :: a.defers } := hy
        refine ⟨hyD.put hsi h3 _, ?_⟩
        rw [← Act.put_comm _ v undef h2, ← Act.put_defers]
        exact h
    | halt x w' =>
      cases x <;> simp only [Oper.uponIn] at h ⊢
      case panic u => exact hQ _ _ _ h
  · rename_i hw
    simp only [hw] at h
    exact ⟨h.1, keep _, by rw [← Act.put_comm a v undef h2]; exact h.2⟩

theorem AnyT.first {i : Nat} {oi : Oper} {v : Value} (hiT : i ∈ T) (hi : ops[i]? = some oi) (hnd : ∀ (j : Nat) (o : Oper) c, ops[j]? = some o → o.op ≠ .defer c) (hsel : ∀ (j : Nat) (o : Oper) cs b, ops[j]? = some o → o.op ≠ .select cs b)
    (hQ : ∀ c a w, Q (.panic c) (a.put oi.dst v) w → Q (.panic c) a w) :
    ∀ (fuel : Nat) (listed : Array Bool) (a : Act) (w : World), S w → Closed md ops listed →
      (∀ j oj, ops[j]? = some oj → j ≠ i → listed.getD j true = false → (∀ e ∈ oj.after, Region.binds md e = true → e.on ≠ i) → oi.apart ops oj = true) →
      i ∈ Region.ready md ops listed → GivesT P ops S oi v a →
      AnyT F n P md ops Q T S fuel (listed.setIfInBounds i true) (a.put oi.dst v) w → AnyT F n P md ops Q T S (fuel + 1) listed a w := by
  intro fuel
  induction fuel with
  | zero =>
    intro listed a w hS _ _ hr hy H
    refine ⟨fun h => (by rw [h] at hr; cases hr), fun j hj => ?_⟩
    by_cases hji : j = i
    · subst hji; exact hy.opIn hi (fun c => hnd _ _ c hi) hS ⟨fun _ => hS, H⟩
    · have := ready_mono hj hji
      rw [H.1] at this
      cases this
  | succ fuel ih =>
    intro listed a w hS hcl hfree hr hy H
    refine ⟨fun h => (by rw [h] at hr; cases hr), fun j hj => ?_⟩
    by_cases hji : j = i
    · subst hji; exact hy.opIn hi (fun c => hnd _ _ c hi) hS ⟨fun _ => hS, H⟩
    · have h1 := H.2 j (ready_mono hj hji)
      obtain ⟨hjun, oj, hoj, hall⟩ := mem_ready.1 hj
      have hnot : ∀ e ∈ oj.after, Region.binds md e = true → e.on ≠ i := fun e he hb heq => by
        have h1 := hall e he hb
        have h0 := (mem_ready.1 hr).1
        rw [heq] at h1
        rcases Nat.lt_or_ge i listed.size with h' | h'
        · simp [h'] at h0 h1; rw [h0] at h1; cases h1
        · simp [Array.getElem?_eq_none h'] at h1
      have h2 := opIn_putT hoj (hfree j oj hoj hji hjun hnot) (fun c => hnd _ _ c hoj) (fun cs b => hsel i oi cs b hi) (fun cs b => hsel j oj cs b hoj) hQ hy h1
      have hfree' : ∀ k ok, ops[k]? = some ok → k ≠ i → (listed.setIfInBounds j true).getD k true = false →
          (∀ e ∈ ok.after, Region.binds md e = true → e.on ≠ i) → oi.apart ops ok = true := fun k ok hk hki hun hno => by
        refine hfree k ok hk hki ?_ hno
        by_cases hjk : j = k
        · subst hjk; exact hjun
        · rw [getD_set_ne true hjk] at hun; exact hun
      refine wpOpIn_mono (fun a' w' h3 => by
        have hr' := ready_mono hr (Ne.symm hji)
        have hni : listed.getD i false = false := by
          have h0 := (mem_ready.1 hr).1
          rcases Nat.lt_or_ge i listed.size with h' | h'
          · simp [h'] at h0 ⊢; exact h0
          · simp [Array.getElem?_eq_none h'] at h0
        have hS' := h3.2.1 (by
          cases hlb : waitB md ops T j with
          | false => rfl
          | true =>
            have h4 := List.all_eq_true.1 hlb i hiT
            rw [waitR_false hcl hni 4 j (fun o ho e he hb => by rw [hoj] at ho; cases ho; exact hall e he hb)] at h4
            simp [Ne.symm hji] at h4)
        refine ⟨fun _ => hS', ih (listed.setIfInBounds j true) a' w' hS' (hcl.set hj) hfree' hr' h3.1 ?_⟩
        rw [Array.setIfInBounds_comm _ _ hji]
        exact h3.2.2) h2

/-- no operation of the region is a 'defer' -/
def noDeferT (ops : Array Oper) : Bool := ops.all fun o => match o.op with | .defer _ => false | _ => true
theorem noDeferT_spec (h : noDeferT ops = true) (j : Nat) (o : Oper) (c : _) (ho : ops[j]? = some o) : o.op ≠ .defer c := by
  intro heq
  have := Array.all_eq_true_iff_forall_mem.1 h o (Array.mem_of_getElem? ho)
  simp [heq] at this

theorem AnyT.take {i : Nat} {oi : Oper} {v : Value} {fuel : Nat} {listed : Array Bool} {a : Act} {w : World} (hiT : i ∈ T) (hcl : closedB md ops listed = true) (hi : ops[i]? = some oi)
    (hs : Region.noSelect ops = true) (hd : noDeferT ops = true) (hf : Region.free md ops listed i = true) (hr : (Region.ready md ops listed).contains i = true)
    (hQ : ∀ c a w, Q (.panic c) (a.put oi.dst v) w → Q (.panic c) a w) (hS : S w) (hw : Region.wanted oi (yielded ops a.tmps) = true) (hab : ∀ w, oi.about P w a.eval = none) (hy : ∀ w, S w → (execOp a.eval oi).run P w = .ok (.value v) w)
    (h : AnyT F n P md ops Q T S fuel (listed.setIfInBounds i true) (a.put oi.dst v) w) : AnyT F n P md ops Q T S (fuel + 1) listed a w :=
  AnyT.first hiT hi (noDeferT_spec hd) (Region.noSelect_spec hs) hQ fuel listed a w hS (closedB_spec hcl) (Region.free_spec hi hf) (by simpa using hr) ⟨.inl ⟨hw, hy⟩, hab⟩ h
/-- an operation that is guarded off -/
theorem AnyT.skip {i : Nat} {oi : Oper} {fuel : Nat} {listed : Array Bool} {a : Act} {w : World} (hiT : i ∈ T) (hcl : closedB md ops listed = true) (hi : ops[i]? = some oi)
    (hs : Region.noSelect ops = true) (hd : noDeferT ops = true) (hf : Region.free md ops listed i = true) (hr : (Region.ready md ops listed).contains i = true)
    (hQ : ∀ c a w, Q (.panic c) (a.put oi.dst undef) w → Q (.panic c) a w) (hS : S w) (hw : Region.wanted oi (yielded ops a.tmps) = false) (hab : ∀ w, oi.about P w a.eval = none)
    (h : AnyT F n P md ops Q T S fuel (listed.setIfInBounds i true) (a.put oi.dst undef) w) : AnyT F n P md ops Q T S (fuel + 1) listed a w :=
  AnyT.first hiT hi (noDeferT_spec hd) (Region.noSelect_spec hs) hQ fuel listed a w hS (closedB_spec hcl) (Region.free_spec hi hf) (by simpa using hr) ⟨.inr ⟨hw, rfl⟩, hab⟩ h

theorem AnyT.only {i : Nat} {o : Oper} {fuel : Nat} {listed : Array Bool} {a : Act} {w : World} (hr : Region.ready md ops listed = [i]) (ho : ops[i]? = some o) (hw : Region.wanted o (yielded ops a.tmps) = true)
    (h : ∀ K : Act → World → Prop, Hid (∀ a w, (waitB md ops T i = false → S w) → AnyT F n P md ops Q T S fuel (listed.setIfInBounds i true) a w → K a w) → Oper.wpIn F n P o a w K Q) : AnyT F n P md ops Q T S (fuel + 1) listed a w := by
  refine ⟨fun h0 => (by rw [hr] at h0; cases h0), fun j hj => ?_⟩
  rw [hr] at hj
  obtain rfl : j = i := by simpa using hj
  unfold wpOpIn
  rw [ho]
  simp only [hw, if_true]
  exact h _ fun a w hS hA => ⟨hS, hA⟩

theorem AnyT.mono {S' : World → Prop} (h : ∀ w, S' w → S w) : ∀ (fuel : Nat) (listed : Array Bool) (a : Act) (w : World), AnyT F n P md ops Q T S' fuel listed a w → AnyT F n P md ops Q T S fuel listed a w
  | 0, _, _, _, hA => hA
  | fuel + 1, _, _, _, hA => ⟨hA.1, fun i hi => wpOpIn_mono (fun a' w' h' => ⟨fun hb => h _ (h'.1 hb), AnyT.mono h fuel _ a' w' h'.2⟩) (hA.2 i hi)⟩
/-- a forced operation that yields a value -/
theorem AnyT.run1 {i : Nat} {o : Oper} {fuel : Nat} {listed : Array Bool} {a : Act} {w w' : World} {v : Value} (hr : Region.ready md ops listed = [i]) (ho : ops[i]? = some o) (hw : Region.wanted o (yielded ops a.tmps) = true)
    (hF : ∀ f, F.fn f) (hnd : ∀ c, o.op ≠ .defer c) (hrun : (execOp a.eval o).run P w = .ok (.value v) w') (hS : S w') (h : AnyT F n P md ops Q T S fuel (listed.setIfInBounds i true) (a.put o.dst v) w') : AnyT F n P md ops Q T S (fuel + 1) listed a w :=
  AnyT.only hr ho hw fun K hK => by
    refine ⟨fun f _ => hF f, ?_⟩
    rw [Oper.semAt_plain F _ _ hnd, hrun]
    exact hK.out _ _ (fun _ => hS) h

/-- either of two operations may come next -/
theorem AnyT.two {i j : Nat} {o u : Oper} {fuel : Nat} {listed : Array Bool} {a : Act} {w : World} (hr : Region.ready md ops listed = [i, j]) (ho : ops[i]? = some o) (hu : ops[j]? = some u) (hwo : Region.wanted o (yielded ops a.tmps) = true) (hwu : Region.wanted u (yielded ops a.tmps) = true)
    (h1 : ∀ K : Act → World → Prop, Hid (∀ a w, (waitB md ops T i = false → S w) → AnyT F n P md ops Q T S fuel (listed.setIfInBounds i true) a w → K a w) → Oper.wpIn F n P o a w K Q)
    (h2 : ∀ K : Act → World → Prop, Hid (∀ a w, (waitB md ops T j = false → S w) → AnyT F n P md ops Q T S fuel (listed.setIfInBounds j true) a w → K a w) → Oper.wpIn F n P u a w K Q) : AnyT F n P md ops Q T S (fuel + 1) listed a w := by
  refine ⟨fun h0 => (by rw [hr] at h0; cases h0), fun k hk => ?_⟩
  rw [hr] at hk
  rcases List.mem_cons.1 hk with rfl | hk
  · unfold wpOpIn
    rw [ho]
    simp only [hwo, if_true]
    exact h1 _ fun a w hS hA => ⟨hS, hA⟩
  · obtain rfl : k = j := by simpa using hk
    unfold wpOpIn
    rw [hu]
    simp only [hwu, if_true]
    exact h2 _ fun a w hS hA => ⟨hS, hA⟩

theorem AnyT.done {listed : Array Bool} {a : Act} {w : World} (hr : Region.ready md ops listed = []) (h : Q .normal a w) : ∀ fuel, AnyT F n P md ops Q T S fuel listed a w
  | 0 => ⟨hr, h⟩
  | _ + 1 => ⟨fun _ => h, by rw [hr]; simp⟩

theorem regionT (T : List Nat) (S : World → Prop) {id : Nat} {a : Act} {w : World} (hm : P.follows .mixedOrders = true)
    (h : AnyT F n P .any ops Q T S ops.size (Array.replicate ops.size false) a w.drew) : (Code.region id ops true).wpIn F n P Q a w :=
  wpIn_region_any hm (AnyT.any _ _ _ _ h)

theorem callWide {P : Program} {n : Nat} {f : FuncId} {args : Array Value} {w : World} {R K : Ending → World → Prop} (h : Calls P f args w R) (hR : ∀ e w', R e w' → K e w') : Fence.wide.fn f ∧ CallsIn Fence.wide n P f args w K :=
  ⟨trivial, callsIn_wide.2 (h.mono hR)⟩
end
end Go.Proofs.Ytjjdckbdjmbndaa
