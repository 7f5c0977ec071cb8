/- What RotateSame needs of rotations, as plain laws: turned texts have the same last bytes; all places say all rotations. No program in sight. -/
import Derived.Test.YtjjdckbdjmbndaaRotM
namespace Go.Proofs.Ytjjdckbdjmbndaa
set_option linter.unusedSimpArgs false
set_option linter.unusedVariables false

theorem last_sgn_of (b : List UInt8) {i : Nat} (hi : i < b.length) : at8 (txt b true i) (b.length - 1) = at8 b ((i + b.length - 1) % b.length) := by
  have hl := txt_lenR b i (by omega)
  have h := txt_sgn b true i (b.length - 1) hi (by omega)
  rw [sgn_in _ _ (by omega)] at h
  simp only [sy, if_true] at h
  rw [show i + b.length - 1 = i + (b.length - 1) by omega]
  exact UInt8.toNat_inj.1 (Nat.succ.inj h)
theorem last_turned {b : List UInt8} {o p : List Nat} {k : Nat} (hk : k < b.length) (ho : Ordered b true o) (hp : Ordered (txt b true k) true p) : lastL b o = lastL (txt b true k) p := by
  have hl := txt_lenR b k (by omega)
  have hlp := hp.len
  apply List.ext_getElem (by rw [lastL_len, lastL_len, ho.len, hp.len, hl])
  intro i h1 h2
  have hi : i < b.length := by rw [lastL_len, ho.len] at h1; exact h1
  have e1 : (lastL b o)[i] = at8 (lastL b o) i := by simp [at8, h1]
  have e2 : (lastL (txt b true k) p)[i] = at8 (lastL (txt b true k) p) i := by simp [at8, h2]
  have q1 := ho.ord.lt hi
  have q2 := hp.ord.lt (p := i) (by omega)
  have e3 := last_sgn_of b q1
  have e4 := last_sgn_of _ q2
  rw [turned_texts hk ho hp i hi] at e3
  rw [e1, e2, lastL_at ho hi, lastL_at hp (by omega), ← e3, ← e4, hl]
/-- how often a text is said, from the first j places -/
def cntT (f : Nat → List UInt8) (j : Nat) (T : List UInt8) : Nat := (List.range j).countP fun p => f p == T
theorem cntT_zero (f : Nat → List UInt8) (T : List UInt8) : cntT f 0 T = 0 := rfl
theorem cntT_succ (f : Nat → List UInt8) (j : Nat) (T : List UInt8) : cntT f (j + 1) T = cntT f j T + if T = f j then 1 else 0 := by
  rw [cntT, List.range_succ, List.countP_append]
  simp only [cntT, List.countP_cons, List.countP_nil, beq_iff_eq, Nat.zero_add]
  by_cases e : f j = T
  · rw [if_pos e, if_pos e.symm]
  · rw [if_neg e, if_neg (Ne.symm e)]
theorem cntT_le (f : Nat → List UInt8) (j : Nat) (T : List UInt8) : cntT f j T ≤ j := by
  have : (List.range j).countP (fun p => f p == T) ≤ (List.range j).length := List.countP_le_length
  simpa [cntT] using this
theorem said_all {b : List UInt8} {o : List Nat} (ho : Ordered b true o) (T : List UInt8) : cntT (backL (lastL b o)) b.length T = cntT (txt b true) b.length T := by
  rw [cntT, cntT, ← bij_count b.length (fun p => atN o p) (fun p hp => ho.ord.lt hp) (fun p q hp hq e => ho.ord.inj hp hq e) (fun i => txt b true i == T)]
  refine List.countP_congr fun p hp => ?_
  rw [back_text ho (List.mem_range.1 hp)]
theorem txt_true (b : List UInt8) (i : Nat) : txt b true i = b.drop i ++ b.take i := rfl
end Go.Proofs.Ytjjdckbdjmbndaa
