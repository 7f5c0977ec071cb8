/- Plain mathematics of the sums: bytes that differ within 32 bits have another sum. Nothing of the program. -/
import Derived.Test.YtglhkkcogdbidaaCrcN
namespace Go.Proofs.Ytglhkkcogdbidaa.M
set_option linter.unusedSimpArgs false
set_option linter.unusedVariables false

def bit1 (b : Bool) : BitVec 32 := if b then 1#32 else 0#32
/-- the register of differences, bit by bit -/
def breg (f : Nat → Bool) : Nat → BitVec 32
  | 0 => 0#32
  | m + 1 => lowBit (breg f m ^^^ bit1 (f m))
theorem shr_split (x : BitVec 32) : x = (x >>> 1 <<< 1) ^^^ bit1 (x.getLsbD 0) := by
  apply ext32; intro i hi
  rw [BitVec.getLsbD_xor, BitVec.getLsbD_shiftLeft, BitVec.getLsbD_ushiftRight, bit1]
  by_cases h : i = 0
  · subst h; cases h0 : x.getLsbD 0 <;> simp
  · cases h0 : x.getLsbD 0 <;> simp [h, hi, BitVec.getLsbD_one, show ¬ i < 1 by omega, show 1 + (i - 1) = i by omega]
theorem inject (x e : BitVec 32) (b : Bool) (hb : b = e.getLsbD 0) : lowBit (x ^^^ e ^^^ bit1 b) = lowBit x ^^^ e >>> 1 := by
  have h : x ^^^ e ^^^ bit1 b = x ^^^ (e >>> 1 <<< 1) := by
    rw [hb]
    conv => lhs; rw [shr_split e]
    have : ((e >>> 1 <<< 1) ^^^ bit1 (e.getLsbD 0)).getLsbD 0 = e.getLsbD 0 := by rw [← shr_split]
    rw [this, BitVec.xor_assoc, BitVec.xor_assoc, BitVec.xor_self, BitVec.xor_zero]
  rw [h, lowBit_xor, lowBit_even (e >>> 1 <<< 1) (by simp [BitVec.getLsbD_shiftLeft])]
  congr 1
  apply ext32; intro i hi
  simp only [BitVec.getLsbD_ushiftRight, BitVec.getLsbD_shiftLeft]
  by_cases h : 1 + i < 32
  · simp [h]
  · simp [h, BitVec.getLsbD_of_ge e (1 + i) (by omega)]
theorem breg_run (f : Nat → Bool) (m : Nat) (E x : BitVec 32) (hx : breg f m = x) (j : Nat) (h : ∀ i, i < j → f (m + i) = E.getLsbD i) : breg f (m + j) = iter lowBit j (x ^^^ E) ^^^ E >>> j := by
  induction j with
  | zero => simp [iter, hx, BitVec.xor_assoc]
  | succ j ih =>
    rw [show m + (j + 1) = m + j + 1 by omega]
    simp only [breg, iter]
    rw [ih (fun i hi => h i (by omega)), inject _ _ _ (by rw [BitVec.getLsbD_ushiftRight]; exact h j (by omega)), ← BitVec.shiftRight_add]
theorem shr_big (x : BitVec 32) (n : Nat) (h : 32 ≤ n) : x >>> n = 0#32 := by
  apply ext32; intro i hi; rw [BitVec.getLsbD_ushiftRight, BitVec.getLsbD_of_ge _ _ (by omega)]; simp
theorem breg_zero (f : Nat → Bool) (m : Nat) (h : ∀ i, i < m → f i = false) : breg f m = 0#32 := by
  have := breg_run f 0 0#32 0#32 rfl m (fun i hi => by rw [Nat.zero_add, h i hi]; simp)
  rw [Nat.zero_add] at this
  rw [this, BitVec.xor_zero, iter_zero]; simp
/-- differences within 32 bits: the register is nought if and only if there are none -/
theorem breg_burst (f : Nat → Bool) (at0 L : Nat) (E : BitVec 32) (hat : at0 ≤ L) (h : ∀ p, f p = (decide (at0 ≤ p) && decide (p < at0 + 32) && E.getLsbD (p - at0)))
    (hE : ∀ i, i < 32 → L ≤ at0 + i → E.getLsbD i = false) : breg f L = 0#32 ↔ E = 0#32 := by
  have h0 : breg f at0 = 0#32 := breg_zero f at0 (fun i hi => by rw [h]; simp; omega)
  have hrun : ∀ i, f (at0 + i) = E.getLsbD i := fun i => by
    rw [h]
    by_cases hi : i < 32
    · simp [hi]
    · rw [BitVec.getLsbD_of_ge E i (by omega)]; simp [hi]
  have e := breg_run f at0 E 0#32 h0 (L - at0) (fun i _ => hrun i)
  rw [show at0 + (L - at0) = L by omega, BitVec.zero_xor] at e
  have hz : E >>> (L - at0) = 0#32 := by
    apply ext32; intro i hi
    rw [BitVec.getLsbD_ushiftRight]
    by_cases hh : L - at0 + i < 32
    · rw [hE _ hh (by omega)]; simp
    · rw [BitVec.getLsbD_of_ge E _ (by omega)]; simp
  rw [hz, BitVec.xor_zero] at e
  rw [e]
  exact ⟨iter_inj0 _ _, fun h => by rw [h, iter_zero]⟩

/-- rows of bytes, and their differences bit by bit -/
theorem fold_diff (f : Nat → Bool) (b c : List UInt8) (k : Nat) (u v : BitVec 32) (hl : c.length = b.length) (hu : u ^^^ v = breg f (8 * k))
    (h : ∀ i j, i < b.length → j < 8 → f (8 * (k + i) + j) = ((b.getD i 0).toBitVec ^^^ (c.getD i 0).toBitVec).getLsbD j) :
    b.foldl lbyte u ^^^ c.foldl lbyte v = breg f (8 * (k + b.length)) := by
  induction b generalizing c k u v with
  | nil =>
    have := List.eq_nil_of_length_eq_zero hl
    subst this; simpa using hu
  | cons b0 b ih =>
    match c, hl, h with
    | c0 :: c, hl, h =>
      simp only [List.foldl_cons, List.length_cons]
      rw [show k + (b.length + 1) = k + 1 + b.length by omega]
      refine ih c (k + 1) _ _ (by simpa using hl) ?_ (fun i j hi hj => ?_)
      · have := breg_run f (8 * k) (ext8 (b0.toBitVec ^^^ c0.toBitVec)) _ hu.symm 8 (fun j hj => by
          have := h 0 j (by simp) hj; simp only [Nat.add_zero, List.getD_cons_zero] at this; rw [this, ext8_get])
        rw [show 8 * (k + 1) = 8 * k + 8 by omega, this, ← lbyte_xor, lbyte_iter]
        have h8 : ext8 (b0.toBitVec ^^^ c0.toBitVec) >>> 8 = 0#32 := by
          apply ext32; intro i hi; rw [BitVec.getLsbD_ushiftRight, ext8_get, BitVec.getLsbD_of_ge _ _ (by omega)]; simp
        rw [h8, BitVec.xor_zero]; rfl
      · have := h (i + 1) j (by simp; omega) hj
        rw [show k + 1 + i = k + (i + 1) by omega, this]; simp
theorem low_burst (b c : List UInt8) (at0 : Nat) (E : BitVec 32) (hl : c.length = b.length) (hat : at0 < 8 * b.length)
    (hE : ∀ i, i < 32 → 8 * b.length ≤ at0 + i → E.getLsbD i = false)
    (h : ∀ i j, i < b.length → j < 8 → ((b.getD i 0).toBitVec ^^^ (c.getD i 0).toBitVec).getLsbD j = (decide (at0 ≤ 8 * i + j) && decide (8 * i + j < at0 + 32) && E.getLsbD (8 * i + j - at0))) :
    lowS b = lowS c ↔ E = 0#32 := by
  have hf := fold_diff (fun p => decide (at0 ≤ p) && decide (p < at0 + 32) && E.getLsbD (p - at0)) b c 0 (~~~0#32) (~~~0#32) hl (by simp [breg]) (fun i j hi hj => by
    rw [Nat.zero_add]; exact (h i j hi hj).symm)
  rw [Nat.zero_add] at hf
  have hb := breg_burst _ at0 (8 * b.length) E (by omega) (fun p => rfl) hE
  rw [← hf] at hb
  rw [← hb]
  unfold lowS lowReg
  constructor
  · intro h1
    have h2 : b.foldl lbyte (~~~0#32) = c.foldl lbyte (~~~0#32) := by
      have := congrArg (fun z : BitVec 32 => ~~~z) h1
      simpa using this
    rw [h2, BitVec.xor_self]
  · intro h1
    have h2 : b.foldl lbyte (~~~0#32) = c.foldl lbyte (~~~0#32) := by
      have := congrArg (fun z : BitVec 32 => z ^^^ c.foldl lbyte (~~~0#32)) h1
      simpa [BitVec.xor_assoc] using this
    rw [h2]

/-! the bytes that the law turns -/
def flip (k : Nat → UInt8) (xs : List UInt8) (p : Nat) : List UInt8 := xs.set (p / 8) (xs.getD (p / 8) 0 ^^^ k (p % 8))
def flips (k : Nat → UInt8) (pat : BitVec 32) (at0 : Nat) (xs : List UInt8) : Nat → List UInt8
  | 0 => xs
  | i + 1 => if pat.getLsbD i then flip k (flips k pat at0 xs i) (at0 + i) else flips k pat at0 xs i
def some1 (pat : BitVec 32) : Nat → Bool
  | 0 => false
  | i + 1 => some1 pat i || pat.getLsbD i
theorem flip_len (k : Nat → UInt8) (xs : List UInt8) (p : Nat) : (flip k xs p).length = xs.length := by simp [flip]
theorem flips_len (k : Nat → UInt8) (pat : BitVec 32) (at0 : Nat) (xs : List UInt8) (i : Nat) : (flips k pat at0 xs i).length = xs.length := by
  induction i with
  | zero => rfl
  | succ i ih => simp only [flips]; split <;> simp [flip_len, ih]
theorem flip_getD (k : Nat → UInt8) (xs : List UInt8) (p q : Nat) (hp : p / 8 < xs.length) : (flip k xs p).getD q 0 = if p / 8 = q then xs.getD q 0 ^^^ k (p % 8) else xs.getD q 0 := by
  unfold flip
  by_cases h : p / 8 = q
  · subst h; simp [hp]
  · simp [h]
theorem flips_get (k : Nat → UInt8) (t : Nat → Nat) (hk : ∀ r j, r < 8 → j < 8 → (k r).toBitVec.getLsbD j = decide (t j = r)) (ht : ∀ j, j < 8 → t j < 8)
    (pat : BitVec 32) (at0 : Nat) (xs : List UInt8) (i : Nat) (hi : at0 + i ≤ 8 * xs.length) (q j : Nat) (hj : j < 8) :
    ((xs.getD q 0).toBitVec ^^^ ((flips k pat at0 xs i).getD q 0).toBitVec).getLsbD j = (decide (at0 ≤ 8 * q + t j) && decide (8 * q + t j < at0 + i) && pat.getLsbD (8 * q + t j - at0)) := by
  induction i with
  | zero => simp [flips]; omega
  | succ i ih =>
    have ih := ih (by omega)
    have htj := ht j hj
    simp only [flips]
    cases hp : pat.getLsbD i with
    | false =>
      rw [if_neg (by simp), ih]
      by_cases h : 8 * q + t j = at0 + i
      · rw [h, show at0 + i - at0 = i by omega, hp]; simp
      · congr 2; apply decide_eq_decide.2; omega
    | true =>
      rw [if_pos rfl, flip_getD _ _ _ _ (by rw [flips_len]; omega)]
      by_cases hq : (at0 + i) / 8 = q
      · rw [if_pos hq, UInt8.toBitVec_xor, ← BitVec.xor_assoc, BitVec.getLsbD_xor, ih, hk _ _ (Nat.mod_lt _ (by decide)) hj]
        by_cases h : t j = (at0 + i) % 8
        · have : 8 * q + t j = at0 + i := by omega
          rw [this, show at0 + i - at0 = i by omega, hp]; simp [h]
        · simp only [h, decide_false, Bool.xor_false]
          congr 2; apply decide_eq_decide.2; omega
      · rw [if_neg hq, ih]
        congr 2; apply decide_eq_decide.2; omega
theorem some1_iff (pat : BitVec 32) (m : Nat) : some1 pat m = true ↔ ∃ i, i < m ∧ pat.getLsbD i = true := by
  induction m with
  | zero => simp [some1]
  | succ m ih =>
    simp only [some1, Bool.or_eq_true, ih]
    constructor
    · rintro (⟨i, hi, h⟩ | h)
      · exact ⟨i, by omega, h⟩
      · exact ⟨m, by omega, h⟩
    · rintro ⟨i, hi, h⟩
      by_cases him : i = m
      · subst him; exact .inr h
      · exact .inl ⟨i, by omega, h⟩
/-- how many rounds: up to 32, and to the end -/
def rounds (at0 bits : Nat) : Nat := min 32 (bits - at0)
theorem burst_low (b : List UInt8) (at0 : Nat) (pat : BitVec 32) (hat : at0 < 8 * b.length) :
    (lowS b = lowS (flips (fun r => 1 <<< UInt8.ofNat r) pat at0 b (rounds at0 (8 * b.length)))) ↔ some1 pat (rounds at0 (8 * b.length)) = false := by
  have hr1 : rounds at0 (8 * b.length) ≤ 32 := by unfold rounds; omega
  have hr2 : at0 + rounds at0 (8 * b.length) ≤ 8 * b.length := by unfold rounds; omega
  have hE : ∀ i, i < 32 → (pat <<< (32 - rounds at0 (8 * b.length)) >>> (32 - rounds at0 (8 * b.length))).getLsbD i = (decide (i < rounds at0 (8 * b.length)) && pat.getLsbD i) := fun i hi => by
    rw [BitVec.getLsbD_ushiftRight, BitVec.getLsbD_shiftLeft]
    by_cases h : i < rounds at0 (8 * b.length)
    · simp [h, show 32 - rounds at0 (8 * b.length) + i < 32 by omega, show ¬ 32 - rounds at0 (8 * b.length) + i < 32 - rounds at0 (8 * b.length) by omega]
    · simp [h, show ¬ 32 - rounds at0 (8 * b.length) + i < 32 by omega]
  generalize (pat <<< (32 - rounds at0 (8 * b.length)) >>> (32 - rounds at0 (8 * b.length))) = E at hE
  rw [low_burst b _ at0 E (flips_len _ _ _ _ _) hat]
  · constructor
    · intro h
      rw [Bool.eq_false_iff, Ne, some1_iff]
      rintro ⟨i, hi, hp⟩
      have := hE i (by omega)
      rw [h, hp] at this; simp at this; omega
    · intro h
      apply ext32; intro i hi
      rw [hE i hi]
      by_cases hir : i < rounds at0 (8 * b.length)
      · cases hp : pat.getLsbD i with
        | false => simp
        | true => exact absurd ((some1_iff pat _).2 ⟨i, hir, hp⟩) (by rw [h]; simp)
      · simp [hir]
  · intro i hi hL
    rw [hE i hi]
    have : ¬ i < rounds at0 (8 * b.length) := by omega
    simp [this]
  · intro i j hi hj
    rw [flips_get _ id (fun r j hr hj => ?_) (fun j hj => hj) pat at0 b _ hr2 i j hj]
    · simp only [id]
      by_cases h1 : at0 ≤ 8 * i + j
      · by_cases h2 : 8 * i + j < at0 + 32
        · rw [hE _ (by omega)]
          simp only [h1, h2, decide_true, Bool.true_and]
          congr 1
          apply decide_eq_decide.2; omega
        · simp [h2]; omega
      · simp [h1]
    · have : ∀ r j : Fin 8, ((1 : UInt8) <<< UInt8.ofNat r.val).toBitVec.getLsbD j.val = decide (id j.val = r.val) := by decide +kernel
      exact this ⟨r, hr⟩ ⟨j, hj⟩
theorem flip_rev (xs : List UInt8) (p : Nat) (hp : p / 8 < xs.length) : (flip (fun r => 128 >>> UInt8.ofNat r) xs p).map rev8 = flip (fun r => 1 <<< UInt8.ofNat r) (xs.map rev8) p := by
  unfold flip
  rw [List.map_set, map_getD, rev8x]
  have : ∀ r : Fin 8, rev8 (128 >>> UInt8.ofNat r.val) = 1 <<< UInt8.ofNat r.val := by decide +kernel
  rw [this ⟨p % 8, Nat.mod_lt _ (by decide)⟩]
theorem flips_rev (pat : BitVec 32) (at0 : Nat) (xs : List UInt8) (i : Nat) (hi : at0 + i ≤ 8 * xs.length) :
    (flips (fun r => 128 >>> UInt8.ofNat r) pat at0 xs i).map rev8 = flips (fun r => 1 <<< UInt8.ofNat r) pat at0 (xs.map rev8) i := by
  induction i with
  | zero => rfl
  | succ i ih =>
    simp only [flips]
    cases pat.getLsbD i
    · simpa using ih (by omega)
    · simp only [if_true]
      rw [flip_rev _ _ (by rw [flips_len]; omega), ih (by omega)]
theorem burst_high (b : List UInt8) (at0 : Nat) (pat : BitVec 32) (hat : at0 < 8 * b.length) :
    (highS b = highS (flips (fun r => 128 >>> UInt8.ofNat r) pat at0 b (rounds at0 (8 * b.length)))) ↔ some1 pat (rounds at0 (8 * b.length)) = false := by
  have h := burst_low (b.map rev8) at0 pat (by simpa using hat)
  rw [List.length_map] at h
  rw [← h, ← flips_rev pat at0 b _ (by unfold rounds; omega), ← highS_rev, ← highS_rev]
  exact ⟨fun h => by rw [← h], rev_inj⟩
end Go.Proofs.Ytglhkkcogdbidaa.M
