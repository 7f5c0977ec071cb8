/- Counting sort, as plain laws. No program in sight. -/
import Derived.Test.YtnlemaaglbbdnaaNat
namespace Go.Proofs.Ytnlemaaglbbdnaa
set_option linter.unusedSimpArgs false
set_option linter.unusedVariables false

/-- how many bear the key k -/
def eqC (ky : Nat → Nat) (l : List Nat) (k : Nat) : Nat := l.countP fun i => ky i == k
/-- how many bear a lesser key -/
def ltC (ky : Nat → Nat) (l : List Nat) (k : Nat) : Nat := l.countP fun i => decide (ky i < k)
theorem ltC_succ (ky : Nat → Nat) (l : List Nat) (k : Nat) : ltC ky l (k + 1) = ltC ky l k + eqC ky l k := by
  induction l with
  | nil => rfl
  | cons x l ih =>
    simp only [ltC, eqC, List.countP_cons] at *
    by_cases h1 : ky x < k
    · have : ¬ ky x = k := by omega
      simp [h1, this, Nat.lt_succ_of_lt h1]; omega
    · by_cases h2 : ky x = k
      · simp [h1, h2]; omega
      · have : ¬ ky x < k + 1 := by omega
        simp [h1, h2, this]; omega
theorem ltC_zero (ky : Nat → Nat) (l : List Nat) : ltC ky l 0 = 0 := by simp [ltC]
theorem ltC_all (ky : Nat → Nat) (l : List Nat) (m : Nat) (h : ∀ i ∈ l, ky i < m) : ltC ky l m = l.length := by
  rw [ltC, List.countP_eq_length]; intro a ha; simpa using h a ha
theorem eqC_snoc (ky : Nat → Nat) (l : List Nat) (v k : Nat) : eqC ky (l ++ [v]) k = eqC ky l k + if k = ky v then 1 else 0 := by
  simp only [eqC, List.countP_append, List.countP_singleton]
  by_cases h : ky v = k
  · simp [h]
  · simp [h]; exact fun e => h e.symm
theorem eqC_app (ky : Nat → Nat) (l r : List Nat) (k : Nat) : eqC ky (l ++ r) k = eqC ky l k + eqC ky r k := by simp [eqC]

/-- the numbers of one key that have come, and room for those to come -/
def bkt (ky : Nat → Nat) (l pre : List Nat) (k : Nat) : List Nat := (pre.filter fun i => ky i == k) ++ List.replicate (eqC ky l k - eqC ky pre k) 0
/-- what lies in 'out' -/
def outS (ky : Nat → Nat) (l pre : List Nat) (m : Nat) : List Nat := (List.range m).flatMap (bkt ky l pre)
/-- sorted by the keys below m, like ones as they stood -/
def csort (ky : Nat → Nat) (l : List Nat) (m : Nat) : List Nat := (List.range m).flatMap fun k => l.filter fun i => ky i == k

theorem eqC_filter (ky : Nat → Nat) (l : List Nat) (k : Nat) : (l.filter fun i => ky i == k).length = eqC ky l k := by rw [eqC, List.countP_eq_length_filter]
theorem bkt_len (ky : Nat → Nat) (l pre : List Nat) (k : Nat) (h : eqC ky pre k ≤ eqC ky l k) : (bkt ky l pre k).length = eqC ky l k := by
  simp [bkt, eqC_filter]; omega
theorem outS_len (ky : Nat → Nat) (l pre : List Nat) (h : ∀ k, eqC ky pre k ≤ eqC ky l k) : ∀ m, (outS ky l pre m).length = ltC ky l m
  | 0 => by simp [outS, ltC_zero]
  | m + 1 => by
    rw [outS, List.range_succ, List.flatMap_append, List.length_append, ltC_succ, ← outS_len ky l pre h m, outS]
    simp [bkt_len _ _ _ _ (h m)]
theorem outS_nil (ky : Nat → Nat) (l : List Nat) : ∀ m, outS ky l [] m = List.replicate (ltC ky l m) 0
  | 0 => by simp [outS, ltC_zero]
  | m + 1 => by
    rw [outS, List.range_succ, List.flatMap_append, ltC_succ, ← List.replicate_append_replicate, ← outS_nil ky l m, outS]
    simp [bkt, eqC]
theorem outS_all (ky : Nat → Nat) (l : List Nat) (m : Nat) : outS ky l l m = csort ky l m := by
  unfold outS csort
  congr 1
  funext k
  simp [bkt]

theorem set_mid {α} (A B : List α) (x y : α) (n : Nat) (h : n = A.length) : (A ++ x :: B).set n y = A ++ y :: B := by subst h; simp

theorem bkt_step (ky : Nat → Nat) (l pre : List Nat) (v : Nat) (h : eqC ky pre (ky v) < eqC ky l (ky v)) :
    (bkt ky l pre (ky v)).set (eqC ky pre (ky v)) v = bkt ky l (pre ++ [v]) (ky v) := by
  obtain ⟨d, hd⟩ : ∃ d, eqC ky l (ky v) - eqC ky pre (ky v) = d + 1 := ⟨eqC ky l (ky v) - eqC ky pre (ky v) - 1, by omega⟩
  have hd2 : eqC ky l (ky v) - eqC ky (pre ++ [v]) (ky v) = d := by rw [eqC_snoc]; simp; omega
  simp only [bkt, hd, hd2]
  rw [List.replicate_succ, set_mid _ _ _ _ _ (eqC_filter ky pre (ky v)).symm]
  simp
theorem bkt_other (ky : Nat → Nat) (l pre : List Nat) (v k : Nat) (h : k ≠ ky v) : bkt ky l (pre ++ [v]) k = bkt ky l pre k := by
  simp [bkt, eqC_snoc, h, List.filter_append]; exact fun e => h e.symm

theorem outS_step (ky : Nat → Nat) (l pre : List Nat) (v : Nat) (h : ∀ k, eqC ky pre k ≤ eqC ky l k) (hv : eqC ky pre (ky v) < eqC ky l (ky v)) : ∀ m, ky v < m →
    (outS ky l pre m).set (ltC ky l (ky v) + eqC ky pre (ky v)) v = outS ky l (pre ++ [v]) m
  | 0, h0 => by omega
  | m + 1, h0 => by
    have hl := outS_len ky l pre h m
    have e1 : outS ky l pre (m + 1) = outS ky l pre m ++ bkt ky l pre m := by simp [outS, List.range_succ]
    have e2 : outS ky l (pre ++ [v]) (m + 1) = outS ky l (pre ++ [v]) m ++ bkt ky l (pre ++ [v]) m := by simp [outS, List.range_succ]
    rw [e1, e2]
    by_cases hm : ky v = m
    · have e3 : ∀ j, j ≤ m → outS ky l (pre ++ [v]) j = outS ky l pre j := fun j hj => by
        unfold outS
        rw [List.flatMap_def, List.flatMap_def]
        congr 1
        exact List.map_congr_left fun k hk => bkt_other _ _ _ _ _ (by have := List.mem_range.1 hk; omega)
      rw [e3 m (Nat.le_refl _)]
      have hs := bkt_step ky l pre v hv
      rw [hm] at hs ⊢
      rw [List.set_append_right _ _ (by rw [hl]; omega), hl, Nat.add_sub_cancel_left, hs]
    · have hlt : ky v < m := by omega
      have hmono : ∀ a b, a ≤ b → ltC ky l a ≤ ltC ky l b := fun a b hab => by
        induction hab with
        | refl => exact Nat.le_refl _
        | step _ ih => rw [ltC_succ]; omega
      have := hmono (ky v + 1) m hlt
      rw [ltC_succ] at this
      rw [bkt_other _ _ _ _ _ (Ne.symm hm), List.set_append_left _ _ (by rw [hl]; omega), outS_step ky l pre v h hv m hlt]

/-! what it is good for -/
theorem csort_mem (ky : Nat → Nat) (l : List Nat) (m : Nat) (h : ∀ i ∈ l, ky i < m) (x : Nat) : x ∈ csort ky l m ↔ x ∈ l := by
  simp only [csort, List.mem_flatMap, List.mem_range, List.mem_filter]
  constructor
  · rintro ⟨_, _, h1, _⟩; exact h1
  · intro hx; exact ⟨ky x, h x hx, hx, by simp⟩
theorem csort_len (ky : Nat → Nat) (l : List Nat) (m : Nat) (h : ∀ i ∈ l, ky i < m) : (csort ky l m).length = l.length := by
  rw [← outS_all, outS_len _ _ _ (fun _ => Nat.le_refl _), ltC_all _ _ _ h]
theorem csort_pairwise (ky : Nat → Nat) (R : Nat → Nat → Prop) (l : List Nat) (hR : l.Pairwise R) : ∀ m, (csort ky l m).Pairwise fun a b => ky a < ky b ∨ (ky a = ky b ∧ R a b)
  | 0 => by simp [csort]
  | m + 1 => by
    have e1 : csort ky l (m + 1) = csort ky l m ++ l.filter fun i => ky i == m := by simp [csort, List.range_succ]
    rw [e1, List.pairwise_append]
    refine ⟨csort_pairwise ky R l hR m, ?_, fun a ha b hb => ?_⟩
    · have := hR.filter fun i => ky i == m
      refine this.imp_of_mem fun {a b} ha hb hab => ?_
      simp only [List.mem_filter, beq_iff_eq] at ha hb
      exact .inr ⟨by omega, hab⟩
    · simp only [csort, List.mem_flatMap, List.mem_range, List.mem_filter, beq_iff_eq] at ha hb
      obtain ⟨k, hk, _, rfl⟩ := ha
      left; omega
end Go.Proofs.Ytnlemaaglbbdnaa
