/- Sorting by twice as many signs at a time, as plain laws. No program in sight. -/
import Derived.Test.YtnlemaaglbbdnaaSufA
namespace Go.Proofs.Ytnlemaaglbbdnaa
set_option linter.unusedSimpArgs false
set_option linter.unusedVariables false

/-- of k signs: less, alike -/
def LTk (sym : Nat → Nat → Nat) (k i j : Nat) : Prop := ∃ t, t < k ∧ (∀ s, s < t → sym i s = sym j s) ∧ sym i t < sym j t
def EQk (sym : Nat → Nat → Nat) (k i j : Nat) : Prop := ∀ s, s < k → sym i s = sym j s

section
variable {sym : Nat → Nat → Nat} {k i j m : Nat}
theorem LTk.mono {k' : Nat} (h : LTk sym k i j) (hk : k ≤ k') : LTk sym k' i j := by
  obtain ⟨t, a, b, c⟩ := h; exact ⟨t, by omega, b, c⟩
theorem EQk.symm (h : EQk sym k i j) : EQk sym k j i := fun s hs => (h s hs).symm
theorem EQk.trans (h : EQk sym k i j) (h' : EQk sym k j m) : EQk sym k i m := fun s hs => (h s hs).trans (h' s hs)
theorem EQk.rfl' : EQk sym k i i := fun _ _ => rfl
theorem LTk.irr (h : LTk sym k i j) (h' : EQk sym k i j) : False := by
  obtain ⟨t, a, b, c⟩ := h; have := h' t a; omega
theorem LTk.trans (h : LTk sym k i j) (h' : LTk sym k j m) : LTk sym k i m := by
  obtain ⟨t, a, b, c⟩ := h
  obtain ⟨t', a', b', c'⟩ := h'
  rcases Nat.lt_trichotomy t t' with h | h | h
  · exact ⟨t, a, fun s hs => (b s hs).trans (b' s (by omega)), by have := b' t h; omega⟩
  · subst h; exact ⟨t, a, fun s hs => (b s hs).trans (b' s hs), by omega⟩
  · exact ⟨t', a', fun s hs => (b s (by omega)).trans (b' s hs), by have := b t' h; omega⟩
theorem LTk.eq_right (h : LTk sym k i j) (h' : EQk sym k j m) : LTk sym k i m := by
  obtain ⟨t, a, b, c⟩ := h; exact ⟨t, a, fun s hs => (b s hs).trans (h' s (by omega)), by have := h' t a; omega⟩
theorem LTk.eq_left (h' : EQk sym k i j) (h : LTk sym k j m) : LTk sym k i m := by
  obtain ⟨t, a, b, c⟩ := h; exact ⟨t, a, fun s hs => (h' s (by omega)).trans (b s hs), by have := h' t a; omega⟩
theorem tri (sym : Nat → Nat → Nat) (i j : Nat) : ∀ k, LTk sym k i j ∨ EQk sym k i j ∨ LTk sym k j i
  | 0 => .inr (.inl fun s hs => by omega)
  | k + 1 => by
    rcases tri sym i j k with h | h | h
    · exact .inl (h.mono (by omega))
    · rcases Nat.lt_trichotomy (sym i k) (sym j k) with h2 | h2 | h2
      · exact .inl ⟨k, by omega, h, h2⟩
      · refine .inr (.inl fun s hs => ?_)
        by_cases he : s = k
        · subst he; exact h2
        · exact h s (by omega)
      · exact .inr (.inr ⟨k, by omega, h.symm, h2⟩)
    · exact .inr (.inr (h.mono (by omega)))
theorem LTk.asymm (h : LTk sym k i j) (h' : LTk sym k j i) : False := (h.trans h').irr EQk.rfl'
end

/-- the place so many behind -/
structure Nx (n : Nat) (sym : Nat → Nat → Nat) (nx : Nat → Nat → Option Nat) : Prop where
  some : ∀ i k j, i < n → nx i k = some j → j < n ∧ ∀ t, sym i (k + t) = sym j t
  none : ∀ i k, i < n → nx i k = none → ∀ t, sym i (k + t) = 0
  pos : ∀ i, i < n → 0 < sym i 0

structure RankOk (n : Nat) (sym : Nat → Nat → Nat) (k : Nat) (r : Nat → Nat) : Prop where
  lt : ∀ i j, i < n → j < n → r i < r j → LTk sym k i j
  eq : ∀ i j, i < n → j < n → r i = r j → EQk sym k i j
  pos : ∀ i, i < n → 1 ≤ r i

structure OrdOk (n : Nat) (sym : Nat → Nat → Nat) (k : Nat) (o : List Nat) : Prop where
  mem : ∀ x, x ∈ o ↔ x < n
  len : o.length = n
  up : o.Pairwise fun a b => LTk sym k a b ∨ (EQk sym k a b ∧ a < b)

/-- the second number of a pair -/
def snd' (nx : Nat → Nat → Option Nat) (r : Nat → Nat) (k i : Nat) : Nat := match nx i k with | some j => r j | none => 0

section
variable {n : Nat} {sym : Nat → Nat → Nat} {nx : Nat → Nat → Option Nat} {k : Nat} {r : Nat → Nat}

theorem snd_lt (hx : Nx n sym nx) (hr : RankOk n sym k r) (h0 : 0 < k) {a b : Nat} (ha : a < n) (hb : b < n) (h1 : r a = r b) (h2 : snd' nx r k a < snd' nx r k b) : LTk sym (2 * k) a b := by
  have he := hr.eq a b ha hb h1
  unfold snd' at h2
  cases h3 : nx a k with
  | some a' =>
    obtain ⟨p1, p2⟩ := hx.some a k a' ha h3
    rw [h3] at h2
    cases h4 : nx b k with
    | some b' =>
      obtain ⟨q1, q2⟩ := hx.some b k b' hb h4
      rw [h4] at h2
      obtain ⟨t, ht, h5, h6⟩ := hr.lt a' b' p1 q1 h2
      refine ⟨k + t, by omega, fun s hs => ?_, by rw [p2, q2]; exact h6⟩
      by_cases hsk : s < k
      · exact he s hsk
      · obtain ⟨u, rfl⟩ : ∃ u, s = k + u := ⟨s - k, by omega⟩
        rw [p2, q2]; exact h5 u (by omega)
    | none => rw [h4] at h2; simp at h2
  | none =>
    have p := hx.none a k ha h3
    rw [h3] at h2
    cases h4 : nx b k with
    | some b' =>
      obtain ⟨q1, q2⟩ := hx.some b k b' hb h4
      refine ⟨k, by omega, fun s hs => he s hs, ?_⟩
      have e1 := p 0; have e2 := q2 0
      rw [Nat.add_zero] at e1 e2
      rw [e1, e2]; exact hx.pos b' q1
    | none => rw [h4] at h2; simp at h2
theorem snd_eq (hx : Nx n sym nx) (hr : RankOk n sym k r) {a b : Nat} (ha : a < n) (hb : b < n) (h1 : r a = r b) (h2 : snd' nx r k a = snd' nx r k b) : EQk sym (2 * k) a b := by
  have he := hr.eq a b ha hb h1
  intro s hs
  by_cases hsk : s < k
  · exact he s hsk
  obtain ⟨u, rfl⟩ : ∃ u, s = k + u := ⟨s - k, by omega⟩
  unfold snd' at h2
  cases h3 : nx a k with
  | some a' =>
    obtain ⟨p1, p2⟩ := hx.some a k a' ha h3
    rw [h3] at h2
    cases h4 : nx b k with
    | some b' =>
      obtain ⟨q1, q2⟩ := hx.some b k b' hb h4
      rw [h4] at h2
      rw [p2, q2]; exact hr.eq a' b' p1 q1 h2 u (by omega)
    | none => rw [h4] at h2; have := hr.pos a' p1; simp at h2; omega
  | none =>
    have p := hx.none a k ha h3
    rw [h3] at h2
    cases h4 : nx b k with
    | some b' => obtain ⟨q1, q2⟩ := hx.some b k b' hb h4; rw [h4] at h2; have := hr.pos b' q1; simp at h2; omega
    | none => rw [p, hx.none b k hb h4]

/-- one round: the order -/
theorem round_order (hx : Nx n sym nx) (hr : RankOk n sym k r) (h0 : 0 < k) (most : Nat) (hm : ∀ i, i < n → r i ≤ most) :
    OrdOk n sym (2 * k) (csort r (csort (snd' nx r k) (List.range n) (most + 1)) (most + 1)) := by
  have hs : ∀ i ∈ List.range n, snd' nx r k i < most + 1 := by
    intro i hi
    have hi := List.mem_range.1 hi
    unfold snd'
    cases h : nx i k with
    | some j => have := hm j (hx.some i k j hi h).1; simp; omega
    | none => simp
  have m1 := csort_mem (snd' nx r k) (List.range n) (most + 1) hs
  have hs2 : ∀ i ∈ csort (snd' nx r k) (List.range n) (most + 1), r i < most + 1 := fun i hi => by
    have := hm i (by simpa using (m1 i).1 hi); omega
  have m2 := csort_mem r _ (most + 1) hs2
  have hmem : ∀ x, x ∈ csort r (csort (snd' nx r k) (List.range n) (most + 1)) (most + 1) ↔ x < n := fun x => by rw [m2, m1]; simp
  refine ⟨hmem, by rw [csort_len _ _ _ hs2, csort_len _ _ _ hs]; simp, ?_⟩
  have h1 := csort_pairwise (snd' nx r k) (· < ·) (List.range n) List.pairwise_lt_range (most + 1)
  have h2 := csort_pairwise r _ _ h1 (most + 1)
  refine h2.imp_of_mem fun {a b} ha hb h => ?_
  have ha := (hmem a).1 ha
  have hb := (hmem b).1 hb
  rcases h with h | ⟨h, h' | ⟨h', h''⟩⟩
  · exact .inl ((hr.lt a b ha hb h).mono (by omega))
  · exact .inl (snd_lt hx hr h0 ha hb h h')
  · exact .inr ⟨snd_eq hx hr ha hb h h', h''⟩

/-- the first order -/
theorem first_order (hr : RankOk n sym k r) (most : Nat) (hm : ∀ i, i < n → r i ≤ most) : OrdOk n sym k (csort r (List.range n) (most + 1)) := by
  have hs : ∀ i ∈ List.range n, r i < most + 1 := fun i hi => by have := hm i (List.mem_range.1 hi); omega
  have m1 := csort_mem r (List.range n) (most + 1) hs
  have hmem : ∀ x, x ∈ csort r (List.range n) (most + 1) ↔ x < n := fun x => by rw [m1]; simp
  refine ⟨hmem, by rw [csort_len _ _ _ hs]; simp, ?_⟩
  refine (csort_pairwise r (· < ·) (List.range n) List.pairwise_lt_range (most + 1)).imp_of_mem fun {a b} ha hb h => ?_
  have ha := (hmem a).1 ha
  have hb := (hmem b).1 hb
  rcases h with h | ⟨h, h'⟩
  · exact .inl (hr.lt a b ha hb h)
  · exact .inr ⟨hr.eq a b ha hb h, h'⟩

theorem OrdOk.lt {o : List Nat} (h : OrdOk n sym k o) {p : Nat} (hp : p < n) : atN o p < n := by
  rw [atN_get _ _ (by rw [h.len]; exact hp)]; exact (h.mem _).1 (List.getElem_mem _)
theorem OrdOk.at {o : List Nat} (h : OrdOk n sym k o) {p q : Nat} (hpq : p < q) (hq : q < n) : LTk sym k (atN o p) (atN o q) ∨ (EQk sym k (atN o p) (atN o q) ∧ atN o p < atN o q) := by
  have hl := h.len
  rw [atN_get _ _ (by omega), atN_get _ _ (by omega)]
  exact List.pairwise_iff_getElem.1 h.up p q (by omega) (by omega) hpq
theorem OrdOk.ne {o : List Nat} (h : OrdOk n sym k o) {p q : Nat} (hpq : p < q) (hq : q < n) : atN o p ≠ atN o q := by
  intro e
  rcases h.at hpq hq with h1 | ⟨_, h1⟩
  · rw [e] at h1; exact h1.irr EQk.rfl'
  · omega
theorem OrdOk.inj {o : List Nat} (h : OrdOk n sym k o) {p q : Nat} (hp : p < n) (hq : q < n) (e : atN o p = atN o q) : p = q := by
  rcases Nat.lt_trichotomy p q with h1 | h1 | h1
  · exact absurd e (h.ne h1 hq)
  · exact h1
  · exact absurd e.symm (h.ne h1 hp)
theorem OrdOk.idx {o : List Nat} (h : OrdOk n sym k o) {i : Nat} (hi : i < n) : ∃ p, p < n ∧ atN o p = i := by
  obtain ⟨p, hp, e⟩ := List.mem_iff_getElem.1 ((h.mem i).2 hi)
  exact ⟨p, by rw [← h.len]; exact hp, by rw [atN_get _ _ hp]; exact e⟩

/-- are the pairs alike? -/
def samePair (nx : Nat → Nat → Option Nat) (r : Nat → Nat) (k a b : Nat) : Bool := r a == r b && snd' nx r k a == snd' nx r k b
/-- the new ranks, by place in the order -/
def cum (nx : Nat → Nat → Option Nat) (r : Nat → Nat) (k : Nat) (o : List Nat) : Nat → Nat
  | 0 => 1
  | p + 1 => cum nx r k o p + if samePair nx r k (atN o (p + 1)) (atN o p) then 0 else 1

theorem cum_le (o : List Nat) : ∀ p, cum nx r k o p ≤ p + 1
  | 0 => Nat.le_refl _
  | p + 1 => by have := cum_le o p; unfold cum; split <;> omega
theorem cum_pos (o : List Nat) : ∀ p, 1 ≤ cum nx r k o p
  | 0 => Nat.le_refl _
  | p + 1 => by have := cum_pos o p; unfold cum; omega

theorem EQ_pair (hx : Nx n sym nx) (hr : RankOk n sym k r) (h0 : 0 < k) {a b : Nat} (ha : a < n) (hb : b < n) (h : EQk sym (2 * k) a b) : samePair nx r k a b = true := by
  have e1 : r a = r b := by
    rcases Nat.lt_trichotomy (r a) (r b) with h1 | h1 | h1
    · exact (((hr.lt a b ha hb h1).mono (by omega)).irr h).elim
    · exact h1
    · exact (((hr.lt b a hb ha h1).mono (by omega)).irr h.symm).elim
  have e2 : snd' nx r k a = snd' nx r k b := by
    rcases Nat.lt_trichotomy (snd' nx r k a) (snd' nx r k b) with h1 | h1 | h1
    · exact ((snd_lt hx hr h0 ha hb e1 h1).irr h).elim
    · exact h1
    · exact ((snd_lt hx hr h0 hb ha e1.symm h1).irr h.symm).elim
  simp [samePair, e1, e2]

theorem cum_spec (hx : Nx n sym nx) (hr : RankOk n sym k r) (h0 : 0 < k) {o : List Nat} (ho : OrdOk n sym (2 * k) o) (p : Nat) : ∀ d, p + d < n →
    (cum nx r k o p = cum nx r k o (p + d) → EQk sym (2 * k) (atN o p) (atN o (p + d))) ∧ (cum nx r k o p < cum nx r k o (p + d) → LTk sym (2 * k) (atN o p) (atN o (p + d))) ∧ cum nx r k o p ≤ cum nx r k o (p + d)
  | 0, _ => ⟨fun _ => EQk.rfl', fun h => absurd h (Nat.lt_irrefl _), Nat.le_refl _⟩
  | d + 1, hd => by
    obtain ⟨h1, h2, h3⟩ := cum_spec hx hr h0 ho p d (by omega)
    have ha := ho.lt (p := p + d) (by omega)
    have hb := ho.lt (p := p + d + 1) (by omega)
    rw [← Nat.add_assoc]
    simp only [cum]
    by_cases hs : samePair nx r k (atN o (p + d + 1)) (atN o (p + d)) = true
    · rw [if_pos hs, Nat.add_zero]
      simp only [samePair, Bool.and_eq_true, beq_iff_eq] at hs
      have he : EQk sym (2 * k) (atN o (p + d)) (atN o (p + d + 1)) := (snd_eq hx hr hb ha hs.1 hs.2).symm
      exact ⟨fun h => (h1 h).trans he, fun h => (h2 h).eq_right he, h3⟩
    · rw [if_neg hs]
      have hl : LTk sym (2 * k) (atN o (p + d)) (atN o (p + d + 1)) := by
        rcases ho.at (p := p + d) (q := p + d + 1) (by omega) (by omega) with h | ⟨h, _⟩
        · exact h
        · exact absurd (EQ_pair hx hr h0 hb ha h.symm) hs
      refine ⟨fun h => by omega, fun _ => ?_, by omega⟩
      rcases Nat.lt_or_ge (cum nx r k o p) (cum nx r k o (p + d)) with h | h
      · exact (h2 h).trans hl
      · exact LTk.eq_left (h1 (by omega)) hl

/-- one round: the ranks -/
theorem round_rank (hx : Nx n sym nx) (hr : RankOk n sym k r) (h0 : 0 < k) {o : List Nat} (ho : OrdOk n sym (2 * k) o) (r' : Nat → Nat) (h : ∀ p, p < n → r' (atN o p) = cum nx r k o p) :
    RankOk n sym (2 * k) r' := by
  have key : ∀ i j, i < n → j < n → (r' i < r' j → LTk sym (2 * k) i j) ∧ (r' i = r' j → EQk sym (2 * k) i j) := by
    intro i j hi hj
    obtain ⟨p, hp, rfl⟩ := ho.idx hi
    obtain ⟨q, hq, rfl⟩ := ho.idx hj
    rw [h p hp, h q hq]
    rcases Nat.le_total p q with hpq | hpq
    · obtain ⟨d, rfl⟩ := Nat.exists_eq_add_of_le hpq
      obtain ⟨h1, h2, h3⟩ := cum_spec hx hr h0 ho p d hq
      exact ⟨h2, h1⟩
    · obtain ⟨d, rfl⟩ := Nat.exists_eq_add_of_le hpq
      obtain ⟨h1, h2, h3⟩ := cum_spec hx hr h0 ho q d hp
      exact ⟨fun h => by omega, fun h => (h1 h.symm).symm⟩
  refine ⟨fun i j hi hj => (key i j hi hj).1, fun i j hi hj => (key i j hi hj).2, fun i hi => ?_⟩
  obtain ⟨p, hp, rfl⟩ := ho.idx hi
  rw [h p hp]; exact cum_pos o p

theorem rank_le {o : List Nat} {k' : Nat} (ho : OrdOk n sym k' o) (r' : Nat → Nat) (h : ∀ p, p < n → r' (atN o p) = cum nx r k o p) (i : Nat) (hi : i < n) : r' i ≤ n := by
  obtain ⟨p, hp, rfl⟩ := ho.idx hi
  rw [h p hp]; have := cum_le (nx := nx) (r := r) (k := k) o p; omega
end

/-- an order is the only one of its kind -/
theorem ord_unique {n : Nat} {sym : Nat → Nat → Nat} {k : Nat} {a b : List Nat} (ha : OrdOk n sym k a) (hb : OrdOk n sym k b) : a = b := by
  have key : ∀ (a b : List Nat), a.Pairwise (fun a b => LTk sym k a b ∨ (EQk sym k a b ∧ a < b)) → b.Pairwise (fun a b => LTk sym k a b ∨ (EQk sym k a b ∧ a < b)) → (∀ x, x ∈ a ↔ x ∈ b) → a = b := by
    intro a
    induction a with
    | nil =>
      intro b _ _ h
      cases b with
      | nil => rfl
      | cons y b => exact absurd ((h y).2 (by simp)) (by simp)
    | cons x a ih =>
      intro b h1 h2 h
      have as : ∀ x y, (LTk sym k x y ∨ (EQk sym k x y ∧ x < y)) → (LTk sym k y x ∨ (EQk sym k y x ∧ y < x)) → False := by
        rintro x y (p | ⟨p, p'⟩) (q | ⟨q, q'⟩)
        · exact p.asymm q
        · exact p.irr q.symm
        · exact q.irr p.symm
        · omega
      cases b with
      | nil => exact absurd ((h x).1 (by simp)) (by simp)
      | cons y b =>
        rw [List.pairwise_cons] at h1 h2
        have hxy : x = y := by
          by_cases e : x = y
          · exact e
          · have p1 : x ∈ b := by have := (h x).1 (by simp); simpa [e] using this
            have p2 : y ∈ a := by have := (h y).2 (by simp); simpa [Ne.symm e] using this
            exact (as x y (h1.1 y p2) (h2.1 x p1)).elim
        subst hxy
        congr 1
        refine ih b h1.2 h2.2 fun z => ?_
        have hx1 : x ∉ a := fun e => as x x (h1.1 x e) (h1.1 x e)
        have hx2 : x ∉ b := fun e => as x x (h2.1 x e) (h2.1 x e)
        have := h z
        simp only [List.mem_cons] at this
        constructor
        · intro hz
          rcases this.1 (.inr hz) with e | e
          · subst e; exact absurd hz hx1
          · exact e
        · intro hz
          rcases this.2 (.inr hz) with e | e
          · subst e; exact absurd hz hx2
          · exact e
  exact key a b ha.up hb.up fun x => by rw [ha.mem, hb.mem]

end Go.Proofs.Ytnlemaaglbbdnaa
