/- Bytes come back from their symbols: plain. -/
import Derived.Test.YtindbmfccgeikaaFroI
namespace Go.Proofs.Ytindbmfccgeikaa
set_option linter.unusedSimpArgs false
set_option linter.unusedVariables false

def toI (xs : List Nat) : List Int := xs.map fun c : Nat => (c : Int)
theorem toI_app (xs ys : List Nat) : toI (xs ++ ys) = toI xs ++ toI ys := by simp [toI]
theorem toI_cons (x : Nat) (ys : List Nat) : toI (x :: ys) = (x : Int) :: toI ys := rfl
theorem usedL_riseB (b : List UInt8) : riseB (usedL b) = true := by
  rw [riseB_iff]
  intro j h0 hj
  have := (List.pairwise_iff_getElem.1 (usedL_rise b)) (j - 1) j (by omega) hj (by omega)
  simp only [at8, List.getD_eq_getElem?_getD, List.getElem?_eq_getElem hj, List.getElem?_eq_getElem (show j - 1 < (usedL b).length by omega), Option.getD_some]
  exact this

/-- a run's digits -/
theorem getS_dig (m most : Nat) (hm : 1 ≤ m) (t : List Int) (ht : t ≠ []) (ys : List UInt8) : ∀ (r wo : Nat) (out : List UInt8), 1 ≤ wo → out.length ≤ most →
    (most < out.length + r * wo → getS m most (toI (digL r) ++ t) ys out wo = none) ∧
    (¬ most < out.length + r * wo → ∃ wo', getS m most (toI (digL r) ++ t) ys out wo = getS m most t ys (out ++ List.replicate (r * wo) (at8 ys 0)) wo') := by
  intro r
  induction r using Nat.strongRecOn with
  | ind r ih =>
    intro wo out hwo ho
    rcases Nat.eq_zero_or_pos r with h0 | h0
    · subst h0
      rw [digL_zero, Nat.zero_mul]
      exact ⟨fun h => by omega, fun _ => ⟨wo, by simp [toI]⟩⟩
    · obtain ⟨d, hd⟩ : ∃ d, (r - 1) % 2 = d := ⟨_, rfl⟩
      obtain ⟨r', hr'⟩ : ∃ r', (r - 1) / 2 = r' := ⟨_, rfl⟩
      have hr : r = 2 * r' + d + 1 := by omega
      have hd2 : d = 0 ∨ d = 1 := by omega
      rw [digL_pos r h0, hd, hr', toI_cons, List.cons_append]
      have hne : (toI (digL r') ++ t).isEmpty = false := by
        rw [Bool.eq_false_iff]; intro h; rw [List.isEmpty_iff] at h; simp at h; exact ht h.2
      rw [getS, hne]
      have hlt : r' < r := by omega
      rcases hd2 with rfl | rfl
      · have hmul : r * wo = wo + r' * (2 * wo) := by rw [hr, Nat.add_zero, Nat.add_mul, Nat.one_mul, Nat.mul_comm 2 r', Nat.mul_assoc, Nat.add_comm]
        rw [if_neg (by rintro (h | h | h); omega; omega; exact h (decide_eq_false (by omega))), if_neg (by decide), if_pos (by rfl)]
        by_cases hov : most < out.length + wo
        · rw [if_pos hov]
          exact ⟨fun _ => rfl, fun h => absurd (by rw [hmul]; omega) h⟩
        · rw [if_neg hov]
          obtain ⟨i1, i2⟩ := ih r' hlt (2 * wo) (out ++ List.replicate wo (at8 ys 0)) (by omega) (by simp; omega)
          rw [List.length_append, List.length_replicate, Nat.add_assoc, ← hmul] at i1 i2
          refine ⟨i1, fun h => ?_⟩
          obtain ⟨w', h2⟩ := i2 h
          exact ⟨w', by rw [h2, hmul, List.append_assoc, List.replicate_append_replicate]⟩
      · have hmul : r * wo = (wo + wo) + r' * (2 * wo) := by
          rw [hr, Nat.add_mul, Nat.add_mul, Nat.one_mul, Nat.mul_comm 2 r', Nat.mul_assoc]; omega
        rw [if_neg (by rintro (h | h | h); omega; omega; exact h (decide_eq_false (by omega))), if_pos (by rfl)]
        by_cases hov : most < out.length + (wo + wo)
        · rw [if_pos hov]
          exact ⟨fun _ => rfl, fun h => absurd (by rw [hmul]; omega) h⟩
        · rw [if_neg hov]
          obtain ⟨i1, i2⟩ := ih r' hlt (2 * wo) (out ++ List.replicate (wo + wo) (at8 ys 0)) (by omega) (by simp; omega)
          rw [List.length_append, List.length_replicate, Nat.add_assoc, ← hmul] at i1 i2
          refine ⟨i1, fun h => ?_⟩
          obtain ⟨w', h2⟩ := i2 h
          exact ⟨w', by rw [h2, hmul, List.append_assoc, List.replicate_append_replicate]⟩

theorem getS_put (m most : Nat) (hm : 1 ≤ m) : ∀ (b ys : List UInt8) (r : Nat) (out : List UInt8), ys.length = m → (∀ x, x ∈ b → x ∈ ys) → out.length ≤ most →
    getS m most (toI (putS b ys r) ++ [(m : Int) + 1]) ys out 1 = if most < out.length + r + b.length then none else some (out ++ List.replicate r (at8 ys 0) ++ b)
  | [], ys, r, out, hy, hb, ho => by
    rw [putS]
    obtain ⟨i1, i2⟩ := getS_dig m most hm [(m : Int) + 1] (by simp) ys r 1 out (by decide) ho
    rw [Nat.mul_one] at i1 i2
    rw [List.length_nil, Nat.add_zero, List.append_nil]
    by_cases hov : most < out.length + r
    · rw [if_pos hov, i1 hov]
    · rw [if_neg hov]
      obtain ⟨w', h⟩ := i2 hov
      rw [h, getS, if_neg (by rintro (h | h | h); omega; omega; exact h (by simp)), if_neg (by omega), if_neg (by omega), if_neg (by omega), if_neg (by simp; omega), getS]
  | c :: t, ys, r, out, hy, hb, ho => by
    have hc := hb c (List.mem_cons_self ..)
    have hk := pos8_lt hc
    have hat := pos8_at hc
    have hbt : ∀ x, x ∈ t → x ∈ mvd ys (pos8 ys c) := fun x hx => (mvd_mem ys _ hk x).2 (hb x (List.mem_cons_of_mem _ hx))
    have hml := mvd_len ys _ hk
    rw [putS]
    by_cases h0 : pos8 ys c = 0
    · rw [if_pos h0]
      rw [h0] at hat hml hbt ⊢
      rw [mvd_zero ys (by omega)] at hbt ⊢
      rw [getS_put m most hm t ys (r + 1) out hy hbt ho, List.length_cons, hat]
      rw [show out.length + (r + 1) + t.length = out.length + r + (t.length + 1) by omega]
      congr 2
      rw [List.replicate_succ', List.append_assoc, List.append_assoc, List.append_assoc]; rfl
    · rw [if_neg h0]
      generalize pos8 ys c = k at *
      rw [toI_app, toI_cons, List.append_assoc, List.cons_append]
      obtain ⟨i1, i2⟩ := getS_dig m most hm (((k + 1 : Nat) : Int) :: (toI (putS t (mvd ys k) 0) ++ [(m : Int) + 1])) (by simp) ys r 1 out (by decide) ho
      rw [Nat.mul_one] at i1 i2
      by_cases hov : most < out.length + r
      · rw [i1 hov, if_pos (by omega)]
      · obtain ⟨w', h⟩ := i2 hov
        have hne : (toI (putS t (mvd ys k) 0) ++ [(m : Int) + 1]).isEmpty = false := by
          rw [Bool.eq_false_iff]; intro h; rw [List.isEmpty_iff] at h; simp at h
        rw [h, getS, hne, if_neg (by rintro (h | h | h); omega; omega; exact h (decide_eq_false (by omega))), if_neg (by omega), if_neg (by omega), if_pos (by omega)]
        rw [show (((k + 1 : Nat) : Int) - 1).toNat = k by omega, hat]
        by_cases hov2 : most < (out ++ List.replicate r (at8 ys 0)).length + 1
        · rw [if_pos hov2, if_pos (by simp at hov2 ⊢; omega)]
        · rw [if_neg hov2, getS_put m most hm t (mvd ys k) 0 _ (by omega) hbt (by simp at hov2 ⊢; omega)]
          simp only [List.length_append, List.length_replicate, List.length_cons, List.length_nil, List.replicate_zero, List.append_nil]
          rw [show out.length + r + (0 + 1) + 0 + t.length = out.length + r + (t.length + 1) by omega]
          simp

theorem back_ok (b : List UInt8) (hb : 0 < b.length) (most : Nat) (hm : most ≤ 900000) : getR (usedL b) (toI (putL b)) (most : Int) = if most < b.length then .error 2 else .ok b := by
  have hu := usedL_pos hb
  have hr := usedL_riseB b
  unfold getR
  rw [if_neg (by rintro (h | h | h | h); omega; omega; omega; (rw [hr] at h; cases h)), if_neg (by simp [toI, putL])]
  have h := getS_put (usedL b).length most hu b (usedL b) 0 [] rfl (fun x hx => (usedL_mem b x).2 hx) (Nat.zero_le _)
  rw [show toI (putL b) = toI (putS b (usedL b) 0) ++ [((usedL b).length : Int) + 1] by unfold putL; rw [toI_app]; rfl, Int.toNat_natCast, h]
  simp only [List.length_nil, Nat.zero_add, List.nil_append, List.replicate_zero, List.append_nil]
  by_cases h2 : most < b.length
  · rw [if_pos h2, if_pos h2]
  · rw [if_neg h2, if_neg h2]

theorem digL_le (n : Nat) : ∀ x ∈ digL n, x ≤ 1 := by
  induction n using Nat.strongRecOn with
  | ind n ih =>
    rcases Nat.eq_zero_or_pos n with h | h
    · rw [h, digL_zero]; intro x hx; cases hx
    · rw [digL_pos n h]
      intro x hx
      rcases List.mem_cons.1 hx with h1 | h1
      · omega
      · exact ih _ (by omega) x h1
theorem putS_le (m : Nat) (hm : 1 ≤ m) : ∀ (b ys : List UInt8) (r : Nat), ys.length = m → (∀ x, x ∈ b → x ∈ ys) → ∀ x ∈ putS b ys r, x ≤ m
  | [], ys, r, hy, hb => by rw [putS]; intro x hx; have := digL_le r x hx; omega
  | c :: t, ys, r, hy, hb => by
    have hc := hb c (List.mem_cons_self ..)
    have hk := pos8_lt hc
    have hbt : ∀ x, x ∈ t → x ∈ mvd ys (pos8 ys c) := fun x hx => (mvd_mem ys _ hk x).2 (hb x (List.mem_cons_of_mem _ hx))
    have hml := mvd_len ys _ hk
    rw [putS]
    intro x hx
    split at hx
    · exact putS_le m hm t _ _ (by omega) hbt x hx
    · rcases List.mem_append.1 hx with h | h
      · have := digL_le r x h; omega
      · rcases List.mem_cons.1 h with h | h
        · omega
        · exact putS_le m hm t _ _ (by omega) hbt x h
/-- what stands where among the symbols -/
theorem putL_at (b : List UInt8) {i : Nat} {x : Nat} (h : (putL b)[i]? = some x) : x ≤ (usedL b).length + 1 ∧ (x = (usedL b).length + 1 ↔ i + 1 = (putL b).length) := by
  have hl : (putL b).length = (putS b (usedL b) 0).length + 1 := by unfold putL; simp
  have hi := (List.getElem?_eq_some_iff.1 h).1
  rw [hl]
  unfold putL at h
  rcases Nat.lt_or_ge i (putS b (usedL b) 0).length with h1 | h1
  · rw [List.getElem?_append_left h1] at h
    have hx := List.mem_of_getElem? h
    rcases Nat.eq_zero_or_pos b.length with h0 | h0
    · rw [List.eq_nil_of_length_eq_zero h0] at hx; simp [putS, digL_zero] at hx
    · have := putS_le _ (usedL_pos h0) b (usedL b) 0 rfl (fun x hx => (usedL_mem b x).2 hx) x hx
      omega
  · rw [List.getElem?_append_right h1] at h
    have hi2 : i = (putS b (usedL b) 0).length := by omega
    rw [hi2, Nat.sub_self] at h
    simp at h
    omega
theorem putL_len (b : List UInt8) : (putL b).length ≤ b.length + 1 := by
  have := putS_len b (usedL b) 0
  unfold putL; simp; omega
end Go.Proofs.Ytindbmfccgeikaa
