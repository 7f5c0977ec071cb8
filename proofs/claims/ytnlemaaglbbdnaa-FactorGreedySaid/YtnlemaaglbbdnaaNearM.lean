/- The plain law of near: the stack's answers are the document's. No program in sight. -/
import Derived.Test.YtnlemaaglbbdnaaNearR
namespace Go.Proofs.Ytnlemaaglbbdnaa
set_option linter.unusedSimpArgs false
set_option linter.unusedVariables false

theorem cutAt_spec (zs : List Int) (v : Int) (st : List Nat) : ∀ n, (∀ i, cutAt zs v st n ≤ i → i < n → v ≤ atI zs (st.getD i 0)) ∧ (0 < cutAt zs v st n → atI zs (st.getD (cutAt zs v st n - 1) 0) < v)
  | 0 => ⟨fun i h1 h2 => by omega, fun h => by simp [cutAt] at h⟩
  | n + 1 => by
    obtain ⟨h1, h2⟩ := cutAt_spec zs v st n
    unfold cutAt
    split
    · rename_i h
      exact ⟨fun i a b => by omega, fun _ => by simpa using h⟩
    · rename_i h
      refine ⟨fun i a b => ?_, h2⟩
      by_cases hi : i = n
      · subst hi; omega
      · exact h1 i a (by omega)

/-- the greatest time ahead of c at which what stands there is less than v; one more -/
def backG (y : Nat → Int) (v : Int) : Nat → Nat
  | 0 => 0
  | c + 1 => if v ≤ y c then backG y v c else c + 1

theorem backG_of (y : Nat → Int) (v : Int) (j : Nat) : ∀ n, j ≤ n → (∀ i, j ≤ i → i < n → v ≤ y i) → (0 < j → y (j - 1) < v) → backG y v n = j
  | 0, h, _, _ => by simp [backG]; omega
  | n + 1, h, hp, hq => by
    unfold backG
    by_cases hj : j = n + 1
    · subst hj
      have := hq (by omega)
      rw [Nat.add_sub_cancel] at this
      rw [if_neg (by omega)]
    · have := hp n (by omega) (by omega)
      rw [if_pos this]
      exact backG_of y v j n (by omega) (fun i h1 h2 => hp i h1 (by omega)) hq

theorem backG_le (y : Nat → Int) (v : Int) : ∀ n, backG y v n ≤ n
  | 0 => Nat.le_refl _
  | n + 1 => by
    unfold backG; split
    · exact Nat.le_succ_of_le (backG_le y v n)
    · exact Nat.le_refl _

/-- the stack, in times -/
structure NInv (y : Nat → Int) (k : Nat) (ts : List Nat) : Prop where
  up : ts.Pairwise (· < ·)
  lt : ∀ t ∈ ts, t < k
  cov : ∀ t, t < k → t ∉ ts → ∃ s ∈ ts, t < s ∧ y s ≤ y t

theorem NInv.step {y : Nat → Int} {k : Nat} {A B : List Nat} (h : NInv y k (A ++ B)) (hB : ∀ s ∈ B, y k ≤ y s) : NInv y (k + 1) (A ++ [k]) := by
  refine ⟨?_, ?_, ?_⟩
  · rw [List.pairwise_append]
    refine ⟨(List.pairwise_append.1 h.up).1, by simp, fun a ha b hb => ?_⟩
    simp at hb; subst hb
    exact h.lt a (List.mem_append_left _ ha)
  · intro t ht
    rcases List.mem_append.1 ht with ht | ht
    · have := h.lt t (List.mem_append_left _ ht); omega
    · simp at ht; omega
  · intro t ht hn
    have h1 : t ∉ A := fun e => hn (List.mem_append_left _ e)
    have h2 : t ≠ k := fun e => hn (by simp [e])
    by_cases hb : t ∈ B
    · exact ⟨k, by simp, by omega, hB t hb⟩
    · obtain ⟨s, hs, h3, h4⟩ := h.cov t (by omega) (by simp [h1, hb])
      rcases List.mem_append.1 hs with hs | hs
      · exact ⟨s, List.mem_append_left _ hs, h3, h4⟩
      · exact ⟨k, by simp, by omega, Int.le_trans (hB s hs) h4⟩

theorem NInv.back {y : Nat → Int} {k : Nat} {A B : List Nat} (h : NInv y k (A ++ B)) (hB : ∀ s ∈ B, y k ≤ y s) (hA : ∀ a, A.getLast? = some a → y a < y k) :
    backG y (y k) k = match A.getLast? with | none => 0 | some a => a + 1 := by
  cases hl : A.getLast? with
  | none =>
    have : A = [] := by simpa using hl
    subst this
    refine backG_of _ _ _ _ (Nat.zero_le _) (fun t _ ht => ?_) (fun h => absurd h (Nat.lt_irrefl _))
    by_cases hb : t ∈ B
    · exact hB t hb
    · obtain ⟨s, hs, h3, h4⟩ := h.cov t ht (by simpa using hb)
      exact Int.le_trans (hB s (by simpa using hs)) h4
  | some a =>
    show backG y (y k) k = a + 1
    have ha := hA a hl
    have hmem : a ∈ A := List.mem_of_getLast? hl
    obtain ⟨A', rfl⟩ : ∃ A', A = A' ++ [a] := List.getLast?_eq_some_iff.1 hl
    refine backG_of _ _ _ _ (h.lt a (List.mem_append_left _ hmem)) (fun t h1 ht => ?_) (fun _ => by simpa using ha)
    have hle : ∀ s, s ∈ A' ++ [a] → s ≤ a := fun s hs => by
      rcases List.mem_append.1 hs with hs | hs
      · have := (List.pairwise_append.1 (List.pairwise_append.1 h.up).1).2.2 s hs a (by simp)
        omega
      · simp at hs; omega
    by_cases hb : t ∈ B
    · exact hB t hb
    · have hna : t ∉ A' ++ [a] := fun e => by have := hle t e; omega
      obtain ⟨s, hs, h3, h4⟩ := h.cov t ht (by rw [List.mem_append]; exact fun e => e.elim hna hb)
      rcases List.mem_append.1 hs with hs | hs
      · have := hle s hs; omega
      · exact Int.le_trans (hB s hs) h4

/-- the answer at time t -/
def ansG (y : Nat → Int) (ix : Nat → Nat) (v0 : Int) (t : Nat) : Int := if backG y (y t) t = 0 then v0 else (ix (backG y (y t) t - 1) : Nat)

theorem fold_law (zs : List Int) (n : Nat) (v0 : Int) (ix : Nat → Nat) (hix : ∀ t, t < n → ix t < n) (hinj : ∀ s t, s < n → t < n → ix s = ix t → s = t) :
    ∀ k, k ≤ n → ∃ ts, (foldN zs n v0 (upto (fun j => (ix j, atI zs (ix j))) k)).1 = ts.map ix ∧ NInv (fun t => atI zs (ix t)) k ts ∧
      (∀ t, t < k → (foldN zs n v0 (upto (fun j => (ix j, atI zs (ix j))) k)).2[ix t]? = some (ansG (fun t => atI zs (ix t)) ix v0 t)) := by
  intro k
  induction k with
  | zero => intro _; exact ⟨[], by simp [upto, foldN], ⟨by simp, by simp, fun t ht => by omega⟩, fun t ht => by omega⟩
  | succ k ih =>
    intro hk
    obtain ⟨ts, h1, h2, h3⟩ := ih (by omega)
    rw [upto_succ, foldN_snoc]
    have hlen := I64_length_fold zs n v0 (upto (fun j => (ix j, atI zs (ix j))) k)
    generalize foldN zs n v0 (upto (fun j => (ix j, atI zs (ix j))) k) = S at *
    obtain ⟨st, outs⟩ := S
    simp only at h1 h3 hlen
    subst h1
    simp only [stepN, Nat.mod_eq_of_lt (hix k (by omega)), List.length_map]
    obtain ⟨c1, c2⟩ := cutAt_spec zs (atI zs (ix k)) (ts.map ix) ts.length
    have c3 := cutAt_le zs (atI zs (ix k)) (ts.map ix) ts.length
    generalize cutAt zs (atI zs (ix k)) (ts.map ix) ts.length = j at *
    have hget : ∀ i, (h : i < ts.length) → (ts.map ix).getD i 0 = ix ts[i] := fun i h => by simp [h]
    have hB : ∀ s ∈ ts.drop j, atI zs (ix k) ≤ atI zs (ix s) := by
      intro s hs
      obtain ⟨i, hi, rfl⟩ := List.mem_iff_getElem.1 hs
      simp at hi
      have := c1 (j + i) (by omega) (by omega)
      rw [hget _ (by omega)] at this
      simpa using this
    have hA : ∀ a, (ts.take j).getLast? = some a → 0 < j ∧ (ts.map ix).getD (j - 1) 0 = ix a := by
      intro a ha
      rw [List.getLast?_eq_getElem?, List.length_take, Nat.min_eq_left c3] at ha
      have hj : 0 < j := by
        rcases Nat.eq_zero_or_pos j with h | h
        · subst h; simp at ha
        · exact h
      refine ⟨hj, ?_⟩
      rw [List.getElem?_take, if_pos (by omega)] at ha
      rw [hget _ (by omega)]
      rw [List.getElem?_eq_getElem (by omega)] at ha
      simpa using congrArg ix (Option.some.inj ha)
    have hsplit : NInv (fun t => atI zs (ix t)) k (ts.take j ++ ts.drop j) := by rw [List.take_append_drop]; exact h2
    have hback := hsplit.back hB (fun a ha => by obtain ⟨h, e⟩ := hA a ha; have := c2 h; rw [e] at this; exact this)
    refine ⟨ts.take j ++ [k], by simp [List.map_take], hsplit.step hB, fun t ht => ?_⟩
    by_cases htk : t = k
    · subst htk
      rw [List.getElem?_set_self (by rw [hlen]; exact hix _ (by omega))]
      congr 1
      unfold ansG
      rw [hback]
      cases hl : (ts.take j).getLast? with
      | none =>
        have : ts.take j = [] := by simpa using hl
        have hj : j = 0 := by
          rcases Nat.eq_zero_or_pos j with h | h
          · exact h
          · have hl' : (ts.take j).length = j := by rw [List.length_take]; omega
            rw [this] at hl'; simp at hl'; omega
        simp [hj]
      | some a =>
        obtain ⟨hj, e⟩ := hA a hl
        rw [if_neg (by omega), e]
        simp
    · rw [List.getElem?_set_ne (fun e => htk (hinj _ _ (by omega) (by omega) e.symm))]
      exact h3 t (by omega)

theorem aheadL_eq (zs : List Int) : aheadL zs = refAhead zs zs.length := by
  obtain ⟨ts, _, _, h⟩ := fold_law zs zs.length (-1) (fun j => j) (fun _ h => h) (fun _ _ _ _ e => e) zs.length (Nat.le_refl _)
  apply List.ext_getElem?
  intro i
  by_cases hi : i < zs.length
  · have := h i hi
    unfold aheadL
    rw [this]
    have hb : ∀ v c, backG (fun t => atI zs t) v c = backI zs v c := fun v c => by
      induction c with
      | zero => rfl
      | succ c ih => simp only [backG, backI, ih]
    simp only [refAhead, ansG, hb]
    rw [List.getElem?_map, List.getElem?_range hi]
    simp only [Option.map_some]
    congr 1
    split
    · rename_i h0; rw [h0]; rfl
    · omega
  · rw [List.getElem?_eq_none (by rw [aheadL_len]; omega), List.getElem?_eq_none (by simp [refAhead]; omega)]

theorem behindL_eq (zs : List Int) : behindL zs = refBehind zs zs.length := by
  obtain ⟨ts, _, _, h⟩ := fold_law zs zs.length zs.length (fun j => zs.length - 1 - j) (fun _ h => by omega) (fun s t _ _ e => by omega) zs.length (Nat.le_refl _)
  apply List.ext_getElem?
  intro i
  by_cases hi : i < zs.length
  · have := h (zs.length - 1 - i) (by omega)
    rw [show zs.length - 1 - (zs.length - 1 - i) = i by omega] at this
    unfold behindL
    rw [this]
    have hb : ∀ v c, c ≤ zs.length → forI zs v zs.length c = zs.length - backG (fun t => atI zs (zs.length - 1 - t)) v c := fun v c => by
      induction c with
      | zero => intro _; rfl
      | succ c ih =>
        intro hc
        simp only [backG, forI]
        rw [show zs.length - (c + 1) = zs.length - 1 - c by omega, ih (by omega)]
        split <;> omega
    have hle := backG_le (fun t => atI zs (zs.length - 1 - t)) (atI zs i) (zs.length - 1 - i)
    simp only [refBehind, ansG]
    rw [List.getElem?_map, List.getElem?_range hi]
    simp only [Option.map_some]
    rw [hb _ _ (by omega), show zs.length - (i + 1) = zs.length - 1 - i by omega, show zs.length - 1 - (zs.length - 1 - i) = i by omega]
    congr 1
    split
    · rename_i h0; rw [h0]; rfl
    · omega
  · rw [List.getElem?_eq_none (by rw [behindL_len]; omega), List.getElem?_eq_none (by simp [refBehind]; omega)]
end Go.Proofs.Ytnlemaaglbbdnaa
