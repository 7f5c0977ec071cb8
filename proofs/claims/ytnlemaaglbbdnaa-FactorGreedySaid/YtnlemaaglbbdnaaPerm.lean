/- Rows that hold each place once, as plain laws. No program in sight. -/
import Derived.Test.YtnlemaaglbbdnaaNat
namespace Go.Proofs.Ytnlemaaglbbdnaa
set_option linter.unusedSimpArgs false
set_option linter.unusedVariables false

/-- more than there is room for: two lie at one place -/
theorem pigeon : ∀ (n : Nat) (f : Nat → Nat), (∀ i, i < n + 1 → f i < n) → ∃ i j, i < j ∧ j < n + 1 ∧ f i = f j
  | 0, f, h => absurd (h 0 (by omega)) (by omega)
  | n + 1, f, h => by
    by_cases hc : ∃ i, i < n + 1 ∧ f i = f (n + 1)
    · obtain ⟨i, hi, e⟩ := hc; exact ⟨i, n + 1, hi, by omega, e⟩
    · have hne : ∀ i, i < n + 1 → f i ≠ f (n + 1) := fun i hi e => hc ⟨i, hi, e⟩
      have hl := h (n + 1) (by omega)
      obtain ⟨i, j, h1, h2, h3⟩ := pigeon n (fun i => if f i = n then f (n + 1) else f i) (fun i hi => by
        have h4 := h i (by omega)
        have h5 := hne i hi
        by_cases e : f i = n
        · simp only [if_pos e]; omega
        · simp only [if_neg e]; omega)
      refine ⟨i, j, h1, by omega, ?_⟩
      have h6 := hne i (by omega)
      have h7 := hne j (by omega)
      try simp only at h3
      by_cases e1 : f i = n
      · by_cases e2 : f j = n
        · omega
        · rw [if_pos e1, if_neg e2] at h3; exact absurd h3.symm h7
      · by_cases e2 : f j = n
        · rw [if_neg e1, if_pos e2] at h3; exact absurd h3 h6
        · rw [if_neg e1, if_neg e2] at h3; exact h3
theorem surj_of_inj (n : Nat) (f : Nat → Nat) (h : ∀ i, i < n → f i < n) (hi : ∀ i j, i < n → j < n → f i = f j → i = j) (v : Nat) (hv : v < n) : ∃ i, i < n ∧ f i = v := by
  cases n with
  | zero => omega
  | succ n =>
    apply Classical.byContradiction
    intro hc
    have hne : ∀ i, i < n + 1 → f i ≠ v := fun i hi e => hc ⟨i, hi, e⟩
    obtain ⟨i, j, h1, h2, h3⟩ := pigeon n (fun i => if f i < v then f i else f i - 1) (fun i hi => by
      have h4 := h i hi
      have h5 := hne i hi
      by_cases e : f i < v
      · simp only [if_pos e]; omega
      · simp only [if_neg e]; omega)
    have h6 := hne i (by omega)
    have h7 := hne j h2
    try simp only at h3
    have : f i = f j := by
      by_cases e1 : f i < v
      · by_cases e2 : f j < v
        · rw [if_pos e1, if_pos e2] at h3; exact h3
        · rw [if_pos e1, if_neg e2] at h3; omega
      · by_cases e2 : f j < v
        · rw [if_neg e1, if_pos e2] at h3; omega
        · rw [if_neg e1, if_neg e2] at h3; omega
    have := hi i j (by omega) h2 this
    omega
theorem inj_of_surj (n : Nat) (f : Nat → Nat) (h : ∀ v, v < n → ∃ i, i < n ∧ f i = v) : (∀ i, i < n → f i < n) ∧ ∀ i j, i < n → j < n → f i = f j → i = j := by
  have hg : ∃ g : Nat → Nat, ∀ v, v < n → g v < n ∧ f (g v) = v := ⟨fun v => if hv : v < n then Classical.choose (h v hv) else 0, fun v hv => by
    simp only [dif_pos hv]; exact Classical.choose_spec (h v hv)⟩
  obtain ⟨g, hg⟩ := hg
  have hs := surj_of_inj n g (fun v hv => (hg v hv).1) (fun u v hu hv e => by rw [← (hg u hu).2, ← (hg v hv).2, e])
  have key : ∀ i, i < n → f i < n ∧ g (f i) = i := fun i hi => by
    obtain ⟨v, hv, rfl⟩ := hs i hi
    rw [(hg v hv).2]; exact ⟨hv, rfl⟩
  exact ⟨fun i hi => (key i hi).1, fun i j hi hj e => by rw [← (key i hi).2, ← (key j hj).2, e]⟩

/-- each place once -/
structure Good (xs : List Int) : Prop where
  lo : ∀ p, p < xs.length → 0 ≤ atI xs p
  hi : ∀ p, p < xs.length → atI xs p < xs.length
  inj : ∀ p q, p < xs.length → q < xs.length → atI xs p = atI xs q → p = q
theorem Good.surj {xs : List Int} (h : Good xs) (v : Nat) (hv : v < xs.length) : ∃ p, p < xs.length ∧ atI xs p = (v : Int) := by
  obtain ⟨p, hp, e⟩ := surj_of_inj xs.length (fun p => (atI xs p).toNat) (fun p hp => by have := h.lo p hp; have := h.hi p hp; omega)
    (fun p q hp hq e => h.inj p q hp hq (by have := h.lo p hp; have := h.lo q hq; omega)) v hv
  exact ⟨p, hp, by have := h.lo p hp; omega⟩
theorem Good.of {xs : List Int} (h : ∀ v, v < xs.length → ∃ p, p < xs.length ∧ atI xs p = (v : Int)) : Good xs := by
  obtain ⟨h1, h2⟩ := inj_of_surj xs.length (fun p => if 0 ≤ atI xs p then (atI xs p).toNat else xs.length) (fun v hv => by
    obtain ⟨p, hp, e⟩ := h v hv
    exact ⟨p, hp, by simp only [e]; rw [if_pos (by omega)]; simp⟩)
  have h3 : ∀ p, p < xs.length → 0 ≤ atI xs p := fun p hp => by
    have := h1 p hp
    try simp only at this
    split at this
    · assumption
    · omega
  refine ⟨h3, fun p hp => ?_, fun p q hp hq e => h2 p q hp hq (by simp only [e])⟩
  have := h1 p hp
  simp only [if_pos (h3 p hp)] at this
  have := h3 p hp
  omega
/-- where each number stands -/
def Inv (xs : List Int) (out : List Nat) : Prop := out.length = xs.length ∧ ∀ p, p < xs.length → atN out (atI xs p).toNat = p
theorem Inv.unique {xs : List Int} {a b : List Nat} (hg : Good xs) (ha : Inv xs a) (hb : Inv xs b) : a = b := by
  apply atN_ext (by rw [ha.1, hb.1])
  intro j hj
  obtain ⟨p, hp, e⟩ := hg.surj j (by rw [← ha.1]; exact hj)
  have h1 := ha.2 p hp
  have h2 := hb.2 p hp
  rw [e, show (j : Int).toNat = j by omega] at h1 h2
  rw [h1, h2]
theorem Inv.at {xs : List Int} {out : List Nat} (hg : Good xs) (h : Inv xs out) {v : Nat} (hv : v < xs.length) : atN out v < xs.length ∧ atI xs (atN out v) = (v : Int) := by
  obtain ⟨p, hp, e⟩ := hg.surj v hv
  have h1 := h.2 p hp
  rw [e, show (v : Int).toNat = v by omega] at h1
  rw [h1]; exact ⟨hp, e⟩
/-- how often v stands among the first m -/
def cnt (xs : List Int) (v : Int) : Nat → Nat
  | 0 => 0
  | m + 1 => cnt xs v m + if atI xs m = v then 1 else 0
theorem cnt_zero (xs : List Int) (v : Int) : ∀ m, cnt xs v m = 0 ↔ ∀ p, p < m → atI xs p ≠ v
  | 0 => by simp [cnt]
  | m + 1 => by
    have := cnt_zero xs v m
    simp only [cnt]
    constructor
    · intro h p hp
      by_cases e : p = m
      · subst e; intro e2; rw [if_pos e2] at h; omega
      · exact this.1 (by omega) p (by omega)
    · intro h
      rw [if_neg (h m (by omega)), this.2 (fun p hp => h p (by omega))]
theorem cnt_one (xs : List Int) (v : Int) : ∀ m, cnt xs v m = 1 ↔ ∃ p, p < m ∧ atI xs p = v ∧ ∀ q, q < m → atI xs q = v → q = p
  | 0 => by simp [cnt]
  | m + 1 => by
    have ih := cnt_one xs v m
    have iz := cnt_zero xs v m
    simp only [cnt]
    by_cases e : atI xs m = v
    · rw [if_pos e]
      constructor
      · intro h
        have hz := iz.1 (by omega)
        exact ⟨m, by omega, e, fun q hq hqe => by
          by_cases e2 : q = m
          · exact e2
          · exact absurd hqe (hz q (by omega))⟩
      · rintro ⟨p, hp, hpe, hu⟩
        have := hu m (by omega) e
        subst this
        rw [iz.2 fun q hq hqe => by have := hu q (by omega) hqe; omega]
    · rw [if_neg e, Nat.add_zero, ih]
      constructor
      · rintro ⟨p, hp, hpe, hu⟩
        exact ⟨p, by omega, hpe, fun q hq hqe => by
          by_cases e2 : q = m
          · subst e2; exact absurd hqe e
          · exact hu q (by omega) hqe⟩
      · rintro ⟨p, hp, hpe, hu⟩
        have : p ≠ m := by rintro rfl; exact e hpe
        exact ⟨p, by omega, hpe, fun q hq hqe => hu q (by omega) hqe⟩
theorem cnt_le (xs : List Int) (v : Int) : ∀ m, cnt xs v m ≤ m
  | 0 => Nat.le_refl _
  | m + 1 => by have := cnt_le xs v m; simp only [cnt]; split <;> omega
/-- where v stands last, among the first m; else what was there -/
def last (xs : List Int) (v : Int) (d : Nat) : Nat → Nat
  | 0 => d
  | m + 1 => if atI xs m = v then m else last xs v d m
theorem last_of (xs : List Int) (v : Int) (d : Nat) {p : Nat} : ∀ m, p < m → atI xs p = v → (∀ q, q < m → atI xs q = v → q = p) → last xs v d m = p
  | 0, h, _, _ => by omega
  | m + 1, h, he, hu => by
    simp only [last]
    by_cases e : atI xs m = v
    · rw [if_pos e]; exact hu m (by omega) e
    · rw [if_neg e]
      have : p ≠ m := by rintro rfl; exact e he
      exact last_of xs v d m (by omega) he fun q hq => hu q (by omega)
theorem Good.cnt {xs : List Int} (h : Good xs) (v : Nat) (hv : v < xs.length) : cnt xs (v : Int) xs.length = 1 := by
  obtain ⟨p, hp, e⟩ := h.surj v hv
  exact (cnt_one _ _ _).2 ⟨p, hp, e, fun q hq hqe => h.inj q p hq hp (by rw [hqe, e])⟩
theorem Good.ofCnt {xs : List Int} (h : ∀ v, v < xs.length → Go.Proofs.Ytnlemaaglbbdnaa.cnt xs (v : Int) xs.length = 1) : Good xs :=
  Good.of fun v hv => by obtain ⟨p, hp, e, _⟩ := (cnt_one _ _ _).1 (h v hv); exact ⟨p, hp, e⟩
theorem Inv.ofLast {xs : List Int} (hg : Good xs) (d : Nat) : Inv xs (rowN (fun v => last xs (v : Int) d xs.length) xs.length) := by
  refine ⟨rowN_len _ _, fun p hp => ?_⟩
  have h1 := hg.lo p hp
  have h2 := hg.hi p hp
  rw [atN_row _ _ _ (by omega)]
  exact last_of _ _ _ _ hp (by omega) fun q hq e => hg.inj q p hq hp (by omega)
/-- a row of natural numbers that holds each place once -/
theorem Good.ofNat {o : List Nat} {n : Nat} (hl : o.length = n) (h1 : ∀ p, p < n → atN o p < n) (h2 : ∀ p q, p < n → q < n → atN o p = atN o q → p = q) : Good (o.map fun c : Nat => (c : Int)) := by
  subst hl
  have e : ∀ p, atI (o.map fun c : Nat => (c : Int)) p = (atN o p : Int) := fun p => by
    simp only [atI, atN, List.getD_eq_getElem?_getD, List.getElem?_map]
    cases o[p]? <;> simp
  refine ⟨fun p hp => by rw [e]; omega, fun p hp => ?_, fun p q hp hq he => ?_⟩
  · rw [List.length_map] at hp ⊢; rw [e]; have := h1 p hp; omega
  · rw [List.length_map] at hp hq; rw [e, e] at he; exact h2 p q hp hq (by omega)
theorem atI_nat (o : List Nat) (p : Nat) : atI (o.map fun c : Nat => (c : Int)) p = (atN o p : Int) := by
  simp only [atI, atN, List.getD_eq_getElem?_getD, List.getElem?_map]
  cases o[p]? <;> simp
end Go.Proofs.Ytnlemaaglbbdnaa
