/- The ends and the rotations of a text, as plain laws. No program in sight. -/
import Derived.Test.YtnlemaaglbbdnaaSufC
import Derived.Test.YtnlemaaglbbdnaaStr
namespace Go.Proofs.Ytnlemaaglbbdnaa
set_option linter.unusedSimpArgs false
set_option linter.unusedVariables false

/-- the text from a place on -/
def txt (b : List UInt8) (r : Bool) (i : Nat) : List UInt8 := if r then b.drop i ++ b.take i else b.drop i
/-- its signs -/
def sy (b : List UInt8) (r : Bool) (i t : Nat) : Nat := if r then (at8 b ((i + t) % b.length)).toNat + 1 else sgn b (i + t)
/-- the place so many behind -/
def nxt (b : List UInt8) (r : Bool) (i k : Nat) : Option Nat := if r then some ((i + k) % b.length) else if i + k < b.length then some (i + k) else none

theorem sgn_drop (b : List UInt8) (i t : Nat) : sgn (b.drop i) t = sgn b (i + t) := by simp [sgn, List.getElem?_drop]
theorem nxt_ok (b : List UInt8) (r : Bool) : Nx b.length (sy b r) (nxt b r) := by
  cases r with
  | false =>
    refine ⟨fun i k j hi h => ?_, fun i k hi h t => ?_, fun i hi => ?_⟩
    · simp only [nxt, Bool.false_eq_true, if_false] at h
      split at h
      · cases h; exact ⟨by omega, fun t => by simp [sy, Nat.add_assoc]⟩
      · cases h
    · simp only [nxt, Bool.false_eq_true, if_false] at h
      split at h
      · cases h
      · simp only [sy, Bool.false_eq_true, if_false]; exact sgn_out _ _ (by omega)
    · simp only [sy, Bool.false_eq_true, if_false]; rw [sgn_in _ _ (by omega)]; omega
  | true =>
    refine ⟨fun i k j hi h => ?_, fun i k hi h t => ?_, fun i hi => ?_⟩
    · simp only [nxt, if_true] at h
      cases h
      exact ⟨Nat.mod_lt _ (by omega), fun t => by simp only [sy, if_true]; rw [Nat.mod_add_mod, Nat.add_assoc]⟩
    · simp [nxt] at h
    · simp [sy]
theorem sy_zero (b : List UInt8) (r : Bool) (i : Nat) (hi : i < b.length) : sy b r i 0 = (at8 b i).toNat + 1 := by
  cases r with
  | false => simp only [sy, Bool.false_eq_true, if_false]; rw [Nat.add_zero, sgn_in _ _ hi]
  | true => simp [sy, Nat.mod_eq_of_lt hi]

theorem txt_len (b : List UInt8) (r : Bool) (i : Nat) (hi : i ≤ b.length) : (txt b r i).length ≤ b.length := by
  cases r <;> simp [txt] <;> omega
theorem txt_lenR (b : List UInt8) (i : Nat) (hi : i ≤ b.length) : (txt b true i).length = b.length := by
  simp [txt]; omega
theorem txt_sgn (b : List UInt8) (r : Bool) (i t : Nat) (hi : i < b.length) (ht : t < b.length) : sgn (txt b r i) t = sy b r i t := by
  cases r with
  | false => simp only [txt, sy, Bool.false_eq_true, if_false]; exact sgn_drop _ _ _
  | true =>
    simp only [txt, sy, if_true]
    have hl : (b.drop i ++ b.take i).length = b.length := by simp; omega
    rw [sgn_in _ _ (by omega)]
    congr 2
    by_cases h : i + t < b.length
    · rw [Nat.mod_eq_of_lt h]
      simp [at8, List.getD_eq_getElem?_getD, List.getElem?_append, List.getElem?_drop, (by omega : t < b.length - i), h]
    · obtain ⟨d, hd⟩ : ∃ d, i + t = b.length + d := ⟨i + t - b.length, by omega⟩
      rw [hd, Nat.add_mod_left, Nat.mod_eq_of_lt (by omega)]
      have e : t - (b.length - i) = d := by omega
      have h2 : ¬ t < b.length - i := by omega
      simp [at8, List.getD_eq_getElem?_getD, List.getElem?_append, List.getElem?_drop, e, List.getElem?_take_of_lt (by omega : d < i)]
      rw [if_neg h2]
theorem txt_out (b : List UInt8) (r : Bool) (i t : Nat) (hi : i < b.length) (ht : b.length ≤ t) : sgn (txt b r i) t = 0 := sgn_out _ _ (Nat.le_trans (txt_len b r i (by omega)) ht)

/-- all of the text's signs are told by the first ones -/
theorem sy_all (b : List UInt8) (r : Bool) {i j : Nat} (hi : i < b.length) (hj : j < b.length) (h : EQk (sy b r) b.length i j) (t : Nat) : sy b r i t = sy b r j t := by
  by_cases ht : t < b.length
  · exact h t ht
  cases r with
  | false => simp only [sy, Bool.false_eq_true, if_false]; rw [sgn_out _ _ (by omega), sgn_out _ _ (by omega)]
  | true =>
    have h1 := h (t % b.length) (Nat.mod_lt _ (by omega))
    simp only [sy, if_true] at h1 ⊢
    rwa [Nat.add_mod_mod, Nat.add_mod_mod] at h1
theorem LT_cut (b : List UInt8) (r : Bool) {i j k : Nat} (hi : i < b.length) (hj : j < b.length) (h : LTk (sy b r) k i j) : LTk (sy b r) b.length i j := by
  rcases tri (sy b r) i j b.length with h1 | h1 | h1
  · exact h1
  · obtain ⟨t, _, _, h2⟩ := h; have := sy_all b r hi hj h1 t; omega
  · obtain ⟨t, h0, h2, h3⟩ := h
    obtain ⟨s, h4, h5, h6⟩ := h1
    rcases Nat.lt_trichotomy t s with e | e | e
    · have := h5 t e; omega
    · subst e; omega
    · have := h2 s e; omega

theorem less_txt (b : List UInt8) (r : Bool) {i j : Nat} (hi : i < b.length) (hj : j < b.length) : Op.bytesLess (txt b r i) (txt b r j) = true ↔ LTk (sy b r) b.length i j := by
  rw [less_iff]
  constructor
  · rintro ⟨t, h1, h2⟩
    have ht : t < b.length := by
      apply Nat.lt_of_not_le
      intro h; rw [txt_out _ _ _ _ hi h, txt_out _ _ _ _ hj h] at h2; omega
    exact ⟨t, ht, fun s hs => by have := h1 s hs; rwa [txt_sgn _ _ _ _ hi (by omega), txt_sgn _ _ _ _ hj (by omega)] at this, by rwa [txt_sgn _ _ _ _ hi ht, txt_sgn _ _ _ _ hj ht] at h2⟩
  · rintro ⟨t, ht, h1, h2⟩
    exact ⟨t, fun s hs => by rw [txt_sgn _ _ _ _ hi (by omega), txt_sgn _ _ _ _ hj (by omega)]; exact h1 s hs, by rwa [txt_sgn _ _ _ _ hi ht, txt_sgn _ _ _ _ hj ht]⟩
theorem eq_txt (b : List UInt8) (r : Bool) {i j : Nat} (hi : i < b.length) (hj : j < b.length) : txt b r i = txt b r j ↔ EQk (sy b r) b.length i j := by
  rw [eq_iff]
  constructor
  · intro h s hs; have := h s; rwa [txt_sgn _ _ _ _ hi hs, txt_sgn _ _ _ _ hj hs] at this
  · intro h t
    by_cases ht : t < b.length
    · rw [txt_sgn _ _ _ _ hi ht, txt_sgn _ _ _ _ hj ht]; exact h t ht
    · rw [txt_out _ _ _ _ hi (by omega), txt_out _ _ _ _ hj (by omega)]

/-- the places, in order -/
structure Ordered (b : List UInt8) (r : Bool) (o : List Nat) : Prop where
  ord : OrdOk b.length (sy b r) b.length o
theorem Ordered.of (b : List UInt8) (r : Bool) {k : Nat} {o : List Nat} (h : OrdOk b.length (sy b r) k o) (hk : b.length ≤ k) : Ordered b r o := by
  refine ⟨h.mem, h.len, h.up.imp_of_mem fun {x y} hx hy hxy => ?_⟩
  have hx := (h.mem x).1 hx
  have hy := (h.mem y).1 hy
  rcases hxy with h1 | ⟨h1, h2⟩
  · exact .inl (LT_cut b r hx hy h1)
  · exact .inr ⟨fun s hs => h1 s (by omega), h2⟩
theorem Ordered.unique {b : List UInt8} {r : Bool} {o p : List Nat} (h : Ordered b r o) (h' : Ordered b r p) : o = p := ord_unique h.ord h'.ord
/-- told by comparing the texts -/
theorem Ordered.mk' (b : List UInt8) (r : Bool) (o : List Nat) (hm : ∀ x, x ∈ o ↔ x < b.length) (hl : o.length = b.length) (hu : o.Pairwise fun x y => Op.bytesLess (txt b r x) (txt b r y) = true ∨ (txt b r x = txt b r y ∧ x < y)) : Ordered b r o := by
  refine ⟨hm, hl, hu.imp_of_mem fun {x y} hx hy hxy => ?_⟩
  have hx := (hm x).1 hx
  have hy := (hm y).1 hy
  rcases hxy with h1 | ⟨h1, h2⟩
  · exact .inl ((less_txt b r hx hy).1 h1)
  · exact .inr ⟨(eq_txt b r hx hy).1 h1, h2⟩
theorem Ordered.at {b : List UInt8} {r : Bool} {o : List Nat} (h : Ordered b r o) {p q : Nat} (hpq : p < q) (hq : q < b.length) :
    Op.bytesLess (txt b r (atN o p)) (txt b r (atN o q)) = true ∨ (txt b r (atN o p) = txt b r (atN o q) ∧ atN o p < atN o q) := by
  rcases h.ord.at hpq hq with h1 | ⟨h1, h2⟩
  · exact .inl ((less_txt b r (h.ord.lt (by omega)) (h.ord.lt hq)).2 h1)
  · exact .inr ⟨(eq_txt b r (h.ord.lt (by omega)) (h.ord.lt hq)).2 h1, h2⟩
theorem Ordered.len {b : List UInt8} {r : Bool} {o : List Nat} (h : Ordered b r o) : o.length = b.length := h.ord.len

/-! the document's way: put in one after the other -/
/-- the places below m, in order -/
structure Part (b : List UInt8) (r : Bool) (m : Nat) (o : List Nat) : Prop where
  mem : ∀ x, x ∈ o ↔ x < m
  len : o.length = m
  up : o.Pairwise fun x y => LTk (sy b r) b.length x y ∨ (EQk (sy b r) b.length x y ∧ x < y)
theorem Part.nil (b : List UInt8) (r : Bool) : Part b r 0 [] := ⟨fun x => by simp, rfl, List.Pairwise.nil⟩
theorem Part.put {b : List UInt8} {r : Bool} {m : Nat} {o : List Nat} (h : Part b r m o) (hm : m < b.length) (k : Nat) (hk : k ≤ m) (h1 : ∀ q, q < k → (!(Op.bytesLess (txt b r (atN o q)) (txt b r m) || txt b r (atN o q) == txt b r m)) = false)
    (h2 : k < m → (!(Op.bytesLess (txt b r (atN o k)) (txt b r m) || txt b r (atN o k) == txt b r m)) = true) : Part b r (m + 1) (o.take k ++ m :: o.drop k) := by
  have hl := h.len
  have hlt : ∀ q, q < m → atN o q < m := fun q hq => by rw [atN_get _ _ (by omega)]; exact (h.mem _).1 (List.getElem_mem _)
  have low : ∀ q, q < k → LTk (sy b r) b.length (atN o q) m ∨ (EQk (sy b r) b.length (atN o q) m ∧ atN o q < m) := fun q hq => by
    have hq' := hlt q (by omega)
    have := h1 q hq
    rw [Bool.not_eq_false', Bool.or_eq_true, beq_iff_eq, less_txt b r (by omega) hm, eq_txt b r (by omega) hm] at this
    rcases this with h | h
    · exact .inl h
    · exact .inr ⟨h, hq'⟩
  have high : ∀ q, k ≤ q → q < m → LTk (sy b r) b.length m (atN o q) := fun q hq hqm => by
    have hk' := hlt k (by omega)
    have hq' := hlt q hqm
    have h0 : LTk (sy b r) b.length m (atN o k) := by
      have := h2 (by omega)
      rw [Bool.not_eq_true', Bool.or_eq_false_iff] at this
      rcases tri (sy b r) m (atN o k) b.length with h | h | h
      · exact h
      · have e := (eq_txt b r (by omega) hm).2 h.symm
        rw [e] at this; simp at this
      · have e := (less_txt b r (by omega) hm).2 h
        rw [e] at this; simp at this
    by_cases e : q = k
    · rw [e]; exact h0
    · have hp := List.pairwise_iff_getElem.1 h.up k q (by omega) (by omega) (by omega)
      rw [← atN_get, ← atN_get] at hp
      rcases hp with h3 | ⟨h3, _⟩
      · exact h0.trans h3
      · exact h0.eq_right h3
  refine ⟨fun x => ?_, by simp [hl]; omega, ?_⟩
  · have := h.mem x
    rw [← List.take_append_drop k o, List.mem_append] at this
    simp only [List.mem_append, List.mem_cons]
    constructor
    · rintro (h3 | h3 | h3)
      · have := this.1 (.inl h3); omega
      · omega
      · have := this.1 (.inr h3); omega
    · intro hx
      by_cases e : x = m
      · exact .inr (.inl e)
      · rcases this.2 (by omega) with h3 | h3
        · exact .inl h3
        · exact .inr (.inr h3)
  · have hp := h.up
    rw [← List.take_append_drop k o, List.pairwise_append] at hp
    have gt : ∀ x, x ∈ o.take k → ∃ q, q < k ∧ x = atN o q := fun x hx => by
      obtain ⟨q, hq, e⟩ := List.mem_iff_getElem.1 hx
      rw [List.length_take] at hq
      refine ⟨q, by omega, ?_⟩
      rw [List.getElem_take] at e
      rw [atN_get _ _ (by omega), e]
    have gd : ∀ x, x ∈ o.drop k → ∃ q, k ≤ q ∧ q < m ∧ x = atN o q := fun x hx => by
      obtain ⟨q, hq, e⟩ := List.mem_iff_getElem.1 hx
      rw [List.length_drop] at hq
      refine ⟨k + q, by omega, by omega, ?_⟩
      rw [List.getElem_drop] at e
      rw [atN_get _ _ (by omega), e]
    rw [List.pairwise_append]
    refine ⟨hp.1, List.pairwise_cons.2 ⟨fun y hy => ?_, hp.2.1⟩, fun x hx y hy => ?_⟩
    · obtain ⟨q, h3, h4, rfl⟩ := gd y hy
      exact .inl (high q h3 h4)
    · rcases List.mem_cons.1 hy with rfl | hy
      · obtain ⟨q, h3, rfl⟩ := gt x hx
        exact low q h3
      · exact hp.2.2 x hx y hy
theorem Part.all {b : List UInt8} {r : Bool} {o : List Nat} (h : Part b r b.length o) : Ordered b r o := ⟨h.mem, h.len, h.up⟩
end Go.Proofs.Ytnlemaaglbbdnaa
