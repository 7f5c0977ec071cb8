/- Symbols that say bytes of all used ones are these bytes' symbols: plain. -/
import Derived.Test.YtindbmfccgeikaaFroJ
namespace Go.Proofs.Ytindbmfccgeikaa
set_option linter.unusedSimpArgs false
set_option linter.unusedVariables false

/-- a run's length, by its digits -/
def valD : List Nat → Nat
  | [] => 0
  | d :: D => d + 1 + 2 * valD D
theorem digL_val : ∀ (D : List Nat), (∀ d ∈ D, d ≤ 1) → digL (valD D) = D
  | [], _ => by rw [valD, digL_zero]
  | d :: D, h => by
    have hd := h d (List.mem_cons_self ..)
    rw [valD, digL_pos _ (by omega), show (d + 1 + 2 * valD D - 1) % 2 = d by omega, show (d + 1 + 2 * valD D - 1) / 2 = valD D by omega, digL_val D (fun x hx => h x (List.mem_cons_of_mem _ hx))]
theorem valD_snoc : ∀ (D : List Nat) (d : Nat), valD (D ++ [d]) = valD D + (d + 1) * 2 ^ D.length
  | [], d => by simp [valD]
  | x :: D, d => by
    rw [List.cons_append, valD, valD, valD_snoc D d, List.length_cons, Nat.pow_succ, Nat.mul_add, ← Nat.mul_assoc (d + 1) _ 2, Nat.mul_comm 2 ((d + 1) * 2 ^ D.length)]
    omega
theorem putS_run (ys : List UInt8) (h0 : 0 < ys.length) : ∀ (n : Nat) (rest : List UInt8) (r : Nat), putS (List.replicate n (at8 ys 0) ++ rest) ys r = putS rest ys (r + n)
  | 0, rest, r => by rw [List.replicate_zero]; rfl
  | n + 1, rest, r => by
    have e1 : pos8 ys (at8 ys 0) = 0 := by
      cases ys with
      | nil => simp at h0
      | cons y t => simp [pos8, at8]
    rw [List.replicate_succ, List.cons_append, putS, if_pos e1, e1, mvd_zero ys h0, putS_run ys h0 n rest (r + 1)]
    congr 1; omega
theorem at8_eq {ys : List UInt8} {k : Nat} (h : k < ys.length) : at8 ys k = ys[k] := by
  simp only [at8, List.getD_eq_getElem?_getD]; rw [List.getElem?_eq_getElem h]; rfl
theorem pos8_nodup {ys : List UInt8} (h : ys.Nodup) {k : Nat} (hk : k < ys.length) : pos8 ys (at8 ys k) = k := by
  have h1 := pos8_lt (at8_mem ys k hk)
  have h2 := pos8_at (at8_mem ys k hk)
  generalize pos8 ys (at8 ys k) = q at *
  rw [at8_eq h1, at8_eq hk] at h2
  have hp := List.pairwise_iff_getElem.1 h
  rcases Nat.lt_trichotomy q k with h3 | h3 | h3
  · exact absurd h2 (hp q k h1 hk h3)
  · exact h3
  · exact absurd h2.symm (hp k q hk h1 h3)

theorem same_get (m most : Nat) (hm : 1 ≤ m) : ∀ (ss : List Int) (ys out : List UInt8) (D : List Nat) (b : List UInt8), ss ≠ [] → ys.length = m → ys.Nodup → (∀ d ∈ D, d ≤ 1) →
    getS m most ss ys out (2 ^ D.length) = some b → ∃ rest, b = out ++ rest ∧ toI (putS rest ys (valD D)) ++ [(m : Int) + 1] = toI D ++ ss
  | [], _, _, _, _, h, _, _, _, _ => absurd rfl h
  | s :: t, ys, out, D, b, _, hy, hnd, hD, h => by
    rw [getS] at h
    by_cases hb : s < 0 ∨ (m : Int) + 1 < s ∨ decide (s = (m : Int) + 1) ≠ t.isEmpty
    · rw [if_pos hb] at h; cases h
    rw [if_neg hb] at h
    have hend : s = (m : Int) + 1 ↔ t = [] := by
      have : decide (s = (m : Int) + 1) = t.isEmpty := by
        by_cases e : decide (s = (m : Int) + 1) = t.isEmpty
        · exact e
        · exact absurd (.inr (.inr e)) hb
      rw [← List.isEmpty_iff, ← this, decide_eq_true_eq]
    by_cases h1 : s = 1
    · rw [if_pos h1] at h
      by_cases hov : most < out.length + (2 ^ D.length + 2 ^ D.length)
      · rw [if_pos hov] at h; cases h
      rw [if_neg hov, show 2 * 2 ^ D.length = 2 ^ (D ++ [1]).length by rw [List.length_append]; simp [Nat.pow_succ, Nat.mul_comm]] at h
      obtain ⟨rest, e1, e2⟩ := same_get m most hm t ys _ (D ++ [1]) b (fun e => by have := hend.2 e; omega) hy hnd (fun d hd => by rcases List.mem_append.1 hd with h | h; exact hD d h; simp at h; omega) h
      refine ⟨List.replicate (2 ^ D.length + 2 ^ D.length) (at8 ys 0) ++ rest, by rw [e1, List.append_assoc], ?_⟩
      rw [putS_run ys (by omega), show valD D + (2 ^ D.length + 2 ^ D.length) = valD (D ++ [1]) by rw [valD_snoc]; omega, e2, toI_app, List.append_assoc, h1]; rfl
    rw [if_neg h1] at h
    by_cases h0 : s = 0
    · rw [if_pos h0] at h
      by_cases hov : most < out.length + 2 ^ D.length
      · rw [if_pos hov] at h; cases h
      rw [if_neg hov, show 2 * 2 ^ D.length = 2 ^ (D ++ [0]).length by rw [List.length_append]; simp [Nat.pow_succ, Nat.mul_comm]] at h
      obtain ⟨rest, e1, e2⟩ := same_get m most hm t ys _ (D ++ [0]) b (fun e => by have := hend.2 e; omega) hy hnd (fun d hd => by rcases List.mem_append.1 hd with h | h; exact hD d h; simp at h; omega) h
      refine ⟨List.replicate (2 ^ D.length) (at8 ys 0) ++ rest, by rw [e1, List.append_assoc], ?_⟩
      rw [putS_run ys (by omega), show valD D + 2 ^ D.length = valD (D ++ [0]) by rw [valD_snoc]; omega, e2, toI_app, List.append_assoc, h0]; rfl
    rw [if_neg h0] at h
    have hdl := digL_val D hD
    by_cases h2 : s < (m : Int) + 1
    · rw [if_pos h2] at h
      by_cases hov : most < out.length + 1
      · rw [if_pos hov] at h; cases h
      rw [if_neg hov] at h
      obtain ⟨k, hk⟩ : ∃ k : Nat, s = (k : Int) + 1 := ⟨(s - 1).toNat, by omega⟩
      rw [hk, show ((k : Int) + 1 - 1).toNat = k by omega] at h
      have hkm : k < ys.length := by omega
      obtain ⟨rest, e1, e2⟩ := same_get m most hm t (mvd ys k) _ [] b (fun e => by have := hend.2 e; omega) (by rw [mvd_len ys k hkm]; exact hy) ((mvd_perm ys k hkm).nodup_iff.2 hnd) (fun d hd => by cases hd) h
      refine ⟨at8 ys k :: rest, by rw [e1, List.append_assoc]; rfl, ?_⟩
      have hp := pos8_nodup hnd hkm
      rw [putS, hp, if_neg (by omega), hdl, toI_app, toI_cons, List.append_assoc, List.cons_append]
      rw [show valD [] = 0 from rfl, show toI [] ++ t = t from rfl] at e2
      rw [e2, hk]; rfl
    · rw [if_neg h2] at h
      have hs : s = (m : Int) + 1 := by
        have : ¬ (m : Int) + 1 < s := fun h => hb (.inr (.inl h))
        omega
      obtain rfl : t = [] := hend.1 hs
      by_cases hov : most < out.length
      · rw [if_pos hov] at h; cases h
      rw [if_neg hov, getS] at h
      refine ⟨[], by simpa using h.symm, ?_⟩
      rw [putS, hdl, hs]

theorem rise_nodup {us : List UInt8} (h : riseB us = true) : us.Nodup := by
  rw [riseB_iff] at h
  have hlt : ∀ d i, i + d + 1 < us.length → (at8 us i).toNat < (at8 us (i + d + 1)).toNat := by
    intro d
    induction d with
    | zero => intro i hi; exact h (i + 1) (by omega) hi
    | succ d ih =>
      intro i hi
      have h1 := ih i (by omega)
      have h2 := h (i + (d + 1) + 1) (by omega) hi
      rw [show i + (d + 1) + 1 - 1 = i + d + 1 by omega] at h2
      omega
  refine List.pairwise_iff_getElem.2 fun i j hi hj hij e => ?_
  have := hlt (j - i - 1) i (by omega)
  rw [show i + (j - i - 1) + 1 = j by omega] at this
  simp only [at8, List.getD_eq_getElem?_getD] at this
  rw [List.getElem?_eq_getElem hi, List.getElem?_eq_getElem hj, e] at this
  simp at this
theorem same_ok {us : List UInt8} {ss : List Int} {most : Int} {b : List UInt8} (h : getR us ss most = .ok b) (hu : usedL b = us) : toI (putL b) = ss := by
  unfold getR at h
  by_cases h1 : us.length = 0 ∨ most < 0 ∨ 900000 < most ∨ riseB us = false
  · rw [if_pos h1] at h; cases h
  rw [if_neg h1] at h
  by_cases h2 : ss.length = 0
  · rw [if_pos h2] at h; cases h
  rw [if_neg h2] at h
  have hr : riseB us = true := by
    cases hq : riseB us with
    | true => rfl
    | false => exact absurd (.inr (.inr (.inr hq))) h1
  cases hg : getS us.length most.toNat ss us [] 1 with
  | none => rw [hg] at h; cases h
  | some o =>
    rw [hg] at h
    cases h
    obtain ⟨rest, e1, e2⟩ := same_get us.length most.toNat (by omega) ss us [] [] b (fun e => h2 (by rw [e]; rfl)) rfl (rise_nodup hr) (fun d hd => by cases hd) hg
    rw [List.nil_append] at e1
    subst e1
    unfold putL
    rw [hu, toI_app]
    rw [show valD [] = 0 from rfl, show toI [] ++ ss = ss from rfl] at e2
    rw [← e2]; rfl
end Go.Proofs.Ytindbmfccgeikaa
