/- Plain mathematics of the sums: registers as vectors of bits. Nothing of the program. -/
namespace Go.Proofs.Ytglhkkcogdbidaa.M
set_option linter.unusedSimpArgs false
set_option linter.unusedVariables false

def lowBit (v : BitVec 32) : BitVec 32 := v >>> 1 ^^^ (0xedb88320#32 &&& -(v &&& 1#32))
def highBit (v : BitVec 32) : BitVec 32 := v <<< 1 ^^^ (0x04c11db7#32 &&& -(v >>> 31))
def iter (f : BitVec 32 → BitVec 32) : Nat → BitVec 32 → BitVec 32
  | 0, v => v
  | n + 1, v => f (iter f n v)
def lowTab (i : Nat) : BitVec 32 := iter lowBit 8 (BitVec.ofNat 32 i)
def highTab (i : Nat) : BitVec 32 := iter highBit 8 (BitVec.ofNat 32 i <<< 24)
def lbyte (v : BitVec 32) (c : UInt8) : BitVec 32 := v >>> 8 ^^^ lowTab (v.setWidth 8 ^^^ c.toBitVec).toNat
def hbyte (v : BitVec 32) (c : UInt8) : BitVec 32 := v <<< 8 ^^^ highTab ((v >>> 24).setWidth 8 ^^^ c.toBitVec).toNat
def rstep (v : BitVec 32) (c : Nat) : BitVec 32 := if (c + v.toNat) % 2 = 1 then v >>> 1 ^^^ 0xedb88320#32 else v >>> 1
def rlo (v : BitVec 32) (c : Nat) : Nat → BitVec 32
  | 0 => v
  | k + 1 => rstep (rlo v c k) (c / 2 ^ k)
def hstep (v : BitVec 32) (c : Nat) : BitVec 32 := if (c + (v >>> 31).toNat) % 2 = 1 then v <<< 1 ^^^ 0x04c11db7#32 else v <<< 1
def rhi (v : BitVec 32) (c : Nat) : Nat → BitVec 32
  | 0 => v
  | k + 1 => hstep (rhi v c k) (c / 2 ^ (7 - k))

theorem ext32 {x y : BitVec 32} (h : ∀ i, i < 32 → x.getLsbD i = y.getLsbD i) : x = y := BitVec.eq_of_getLsbD_eq h

def P : BitVec 32 := 0xedb88320#32
theorem and1 (v : BitVec 32) : v &&& 1#32 = if v.getLsbD 0 then 1#32 else 0#32 := by
  apply ext32; intro i hi
  by_cases h : i = 0
  · subst h; cases h0 : v.getLsbD 0 <;> simp <;> exact h0
  · cases h0 : v.getLsbD 0 <;> simp [h, BitVec.getLsbD_one]
theorem lowBit_if (v : BitVec 32) : lowBit v = v >>> 1 ^^^ (if v.getLsbD 0 then P else 0#32) := by
  unfold lowBit
  rw [and1]
  cases v.getLsbD 0
  · simp
  · have : (-(1#32) : BitVec 32) = BitVec.allOnes 32 := by decide
    simp [P]
theorem xor4 (a b c d : BitVec 32) : (a ^^^ b) ^^^ (c ^^^ d) = (a ^^^ c) ^^^ (b ^^^ d) := by ac_rfl
theorem lowBit_xor (a b : BitVec 32) : lowBit (a ^^^ b) = lowBit a ^^^ lowBit b := by
  rw [lowBit_if, lowBit_if, lowBit_if, BitVec.ushiftRight_xor_distrib, xor4]
  congr 1
  rw [BitVec.getLsbD_xor]
  cases a.getLsbD 0 <;> cases b.getLsbD 0 <;> simp
theorem iter_xor (n : Nat) (a b : BitVec 32) : iter lowBit n (a ^^^ b) = iter lowBit n a ^^^ iter lowBit n b := by
  induction n with
  | zero => rfl
  | succ n ih => simp only [iter]; rw [ih, lowBit_xor]
theorem lowBit_zero : lowBit 0#32 = 0#32 := by decide
theorem iter_zero (n : Nat) : iter lowBit n 0#32 = 0#32 := by
  induction n with
  | zero => rfl
  | succ n ih => simp only [iter]; rw [ih, lowBit_zero]
theorem lowBit_even (v : BitVec 32) (h : v.getLsbD 0 = false) : lowBit v = v >>> 1 := by rw [lowBit_if, h]; simp
/-- where the low bits are nought, a step is a shift -/
theorem iter_even (n : Nat) (v : BitVec 32) (h : ∀ i, i < n → v.getLsbD i = false) : iter lowBit n v = v >>> n := by
  induction n with
  | zero => simp [iter]
  | succ n ih =>
    simp only [iter]
    rw [ih (fun i hi => h i (by omega)), lowBit_even _ (by rw [BitVec.getLsbD_ushiftRight]; exact h _ (by omega)), BitVec.shiftRight_add]
/-- the step is one to one -/
theorem lowBit_inj0 (v : BitVec 32) (h : lowBit v = 0#32) : v = 0#32 := by
  rw [lowBit_if] at h
  cases h0 : v.getLsbD 0 with
  | true =>
    rw [h0] at h
    have := congrArg (fun z => BitVec.getLsbD z 31) h
    simp [P] at this
  | false =>
    rw [h0] at h
    simp at h
    apply ext32; intro i hi
    by_cases hi0 : i = 0
    · subst hi0; simpa using h0
    · have := congrArg (fun z => BitVec.getLsbD z (i - 1)) h
      simp only [BitVec.getLsbD_ushiftRight, BitVec.getLsbD_zero] at this
      rw [show 1 + (i - 1) = i by omega] at this
      simpa using this
theorem iter_inj0 (n : Nat) (v : BitVec 32) (h : iter lowBit n v = 0#32) : v = 0#32 := by
  induction n with
  | zero => exact h
  | succ n ih => exact ih (lowBit_inj0 _ h)

/-- a byte as a vector -/
def ext8 (c : BitVec 8) : BitVec 32 := c.setWidth 32
theorem ext8_get (c : BitVec 8) (i : Nat) : (ext8 c).getLsbD i = c.getLsbD i := by
  simp only [ext8, BitVec.getLsbD_setWidth]
  by_cases h : i < 32
  · simp [h]
  · simp [h, BitVec.getLsbD_of_ge c i (by omega)]
theorem ext8_ofNat (c : BitVec 8) : BitVec.ofNat 32 c.toNat = ext8 c := by
  apply ext32; intro i hi
  rw [ext8_get, BitVec.getLsbD_ofNat, BitVec.testBit_toNat]; simp [hi]

theorem lbyte_iter (v : BitVec 32) (c : UInt8) : lbyte v c = iter lowBit 8 (v ^^^ ext8 c.toBitVec) := by
  have e : v ^^^ ext8 c.toBitVec = (v >>> 8 <<< 8) ^^^ ext8 (v.setWidth 8 ^^^ c.toBitVec) := by
    apply ext32; intro i hi
    simp only [BitVec.getLsbD_xor, ext8_get, BitVec.getLsbD_shiftLeft, BitVec.getLsbD_ushiftRight, BitVec.getLsbD_setWidth]
    by_cases h : i < 8
    · simp [h]
    · simp [h, hi, show 8 + (i - 8) = i by omega]
  rw [e, iter_xor, iter_even 8 _ (fun i hi => by simp [BitVec.getLsbD_shiftLeft, hi]), lbyte, lowTab, ext8_ofNat]
  congr 1
  apply ext32; intro i hi
  simp only [BitVec.getLsbD_ushiftRight, BitVec.getLsbD_shiftLeft]
  by_cases h : 8 + i < 32
  · simp [h]
  · simp [h, BitVec.getLsbD_of_ge v (8 + i) (by omega)]

theorem par_toNat (x : BitVec 32) : x.toNat % 2 = if x.getLsbD 0 then 1 else 0 := by
  rw [← BitVec.testBit_toNat]; simp [Nat.testBit_zero]; rcases Nat.mod_two_eq_zero_or_one x.toNat with h | h <;> simp [h]
theorem rlo_iter (v : BitVec 32) (c : BitVec 8) (k : Nat) : rlo v c.toNat k = iter lowBit k (v ^^^ ext8 c) ^^^ (ext8 c >>> k) := by
  induction k with
  | zero => simp [rlo, iter, BitVec.xor_assoc]
  | succ k ih =>
    simp only [rlo, iter]
    rw [ih]
    generalize iter lowBit k (v ^^^ ext8 c) = x
    have hp : (c.toNat / 2 ^ k) % 2 = if (ext8 c >>> k).getLsbD 0 then 1 else 0 := by
      rw [BitVec.getLsbD_ushiftRight, ext8_get, Nat.add_zero, ← BitVec.testBit_toNat, Nat.testBit_eq_decide_div_mod_eq]
      rcases Nat.mod_two_eq_zero_or_one (c.toNat / 2 ^ k) with h | h <;> simp [h]
    have hx := par_toNat (x ^^^ ext8 c >>> k)
    rw [BitVec.getLsbD_xor] at hx
    have hs : (x ^^^ ext8 c >>> k) >>> 1 = x >>> 1 ^^^ ext8 c >>> (k + 1) := by rw [BitVec.ushiftRight_xor_distrib, ← BitVec.shiftRight_add]
    have e : (c.toNat / 2 ^ k + (x ^^^ ext8 c >>> k).toNat) % 2 = if x.getLsbD 0 then 1 else 0 := by
      rw [Nat.add_mod, hp, hx]
      cases x.getLsbD 0 <;> cases (ext8 c >>> k).getLsbD 0 <;> rfl
    rw [rstep, e, lowBit_if, hs]
    cases x.getLsbD 0
    · simp
    · simp only [if_true, P]; ac_rfl
theorem rlo_byte (v : BitVec 32) (c : UInt8) : rlo v c.toNat 8 = lbyte v c := by
  have := rlo_iter v c.toBitVec 8
  have h0 : ext8 c.toBitVec >>> 8 = 0#32 := by
    apply ext32; intro i hi
    rw [BitVec.getLsbD_ushiftRight, ext8_get, BitVec.getLsbD_of_ge _ _ (by omega)]; simp
  rw [h0, BitVec.xor_zero] at this
  rw [lbyte_iter]; exact this

/-! turned round -/
theorem rev_get (x : BitVec 32) (i : Nat) (h : i < 32) : x.reverse.getLsbD i = x.getLsbD (31 - i) := by
  rw [BitVec.getLsbD_reverse, BitVec.getMsbD]; simp [h]
theorem rev8_get (x : BitVec 8) (i : Nat) (h : i < 8) : x.reverse.getLsbD i = x.getLsbD (7 - i) := by
  rw [BitVec.getLsbD_reverse, BitVec.getMsbD]; simp [h]
theorem rev_rev (x : BitVec 32) : x.reverse.reverse = x := by
  apply ext32; intro i hi
  rw [rev_get _ _ hi, rev_get _ _ (by omega)]; congr 1; omega
theorem rev_xor (x y : BitVec 32) : (x ^^^ y).reverse = x.reverse ^^^ y.reverse := by
  apply ext32; intro i hi
  rw [rev_get _ _ hi, BitVec.getLsbD_xor, BitVec.getLsbD_xor, rev_get _ _ hi, rev_get _ _ hi]
theorem rev_shl (x : BitVec 32) (n : Nat) : (x <<< n).reverse = x.reverse >>> n := by
  apply ext32; intro i hi
  rw [rev_get _ _ hi, BitVec.getLsbD_shiftLeft, BitVec.getLsbD_ushiftRight]
  by_cases h : n + i < 32
  · rw [rev_get _ _ h]; simp [show 31 - i < 32 by omega, show ¬ 31 - i < n by omega]; congr 1; omega
  · rw [BitVec.getLsbD_of_ge x.reverse (n + i) (by omega)]; simp [show 31 - i < n by omega]
theorem highBit_if (v : BitVec 32) : highBit v = v <<< 1 ^^^ (if v.getLsbD 31 then 0x04c11db7#32 else 0#32) := by
  unfold highBit
  have e : v >>> 31 = if v.getLsbD 31 then 1#32 else 0#32 := by
    apply ext32; intro i hi
    rw [BitVec.getLsbD_ushiftRight]
    by_cases h : i = 0
    · subst h; cases h0 : v.getLsbD 31 <;> simp [h0]
    · rw [BitVec.getLsbD_of_ge _ _ (by omega)]; cases h0 : v.getLsbD 31 <;> simp [h, BitVec.getLsbD_one]
  rw [e]
  cases v.getLsbD 31
  · simp
  · simp
theorem highBit_rev (v : BitVec 32) : (highBit v).reverse = lowBit v.reverse := by
  rw [highBit_if, lowBit_if, rev_xor, rev_shl, rev_get _ _ (by decide)]
  congr 1
  cases v.getLsbD (31 - 0) <;> decide +kernel
theorem iter_rev (n : Nat) (v : BitVec 32) : (iter highBit n v).reverse = iter lowBit n v.reverse := by
  induction n with
  | zero => rfl
  | succ n ih => simp only [iter]; rw [highBit_rev, ih]
def rev8 (c : UInt8) : UInt8 := ⟨c.toBitVec.reverse⟩
theorem ext8_rev (c : BitVec 8) : (ext8 c <<< 24).reverse = ext8 c.reverse := by
  apply ext32; intro i hi
  rw [rev_get _ _ hi, BitVec.getLsbD_shiftLeft, ext8_get, ext8_get]
  by_cases h : i < 8
  · rw [rev8_get _ _ h]; simp [show 31 - i < 32 by omega, show ¬ 31 - i < 24 by omega]; congr 1; omega
  · rw [BitVec.getLsbD_of_ge _ i (by omega)]; simp [show 31 - i < 24 by omega]
theorem top_rev (v : BitVec 32) : ((v >>> 24).setWidth 8).reverse = v.reverse.setWidth 8 := by
  apply BitVec.eq_of_getLsbD_eq
  intro i hi
  rw [rev8_get _ _ hi, BitVec.getLsbD_setWidth, BitVec.getLsbD_setWidth, BitVec.getLsbD_ushiftRight, rev_get _ _ (by omega)]
  simp [hi, show 7 - i < 8 by omega]; congr 1; omega
theorem rev8_xor (x y : BitVec 8) : (x ^^^ y).reverse = x.reverse ^^^ y.reverse := by
  apply BitVec.eq_of_getLsbD_eq; intro i hi
  rw [rev8_get _ _ hi, BitVec.getLsbD_xor, BitVec.getLsbD_xor, rev8_get _ _ hi, rev8_get _ _ hi]
theorem hbyte_rev (v : BitVec 32) (c : UInt8) : (hbyte v c).reverse = lbyte v.reverse (rev8 c) := by
  rw [hbyte, lbyte, rev_xor, rev_shl, highTab, lowTab, iter_rev, ext8_ofNat, ext8_ofNat, ext8_rev, rev8_xor, top_rev]; rfl
theorem hstep_rev (v : BitVec 32) (c d : Nat) (h : c % 2 = d % 2) : (hstep v c).reverse = rstep v.reverse d := by
  have e1 : (v >>> 31).toNat % 2 = v.reverse.toNat % 2 := by
    rw [par_toNat, par_toNat, BitVec.getLsbD_ushiftRight, rev_get _ _ (by decide)]
  have e : (c + (v >>> 31).toNat) % 2 = (d + v.reverse.toNat) % 2 := by omega
  rw [hstep, rstep, e]
  split
  · rw [rev_xor, rev_shl, show (0x04c11db7#32 : BitVec 32).reverse = 0xedb88320#32 by decide +kernel]
  · rw [rev_shl]
theorem rhi_rev (v : BitVec 32) (c : UInt8) (k : Nat) (hk : k ≤ 8) : (rhi v c.toNat k).reverse = rlo v.reverse (rev8 c).toNat k := by
  induction k with
  | zero => rfl
  | succ k ih =>
    simp only [rhi, rlo]
    rw [hstep_rev _ _ ((rev8 c).toNat / 2 ^ k), ih (by omega)]
    have h1 : ∀ (a j : Nat), a / 2 ^ j % 2 = if a.testBit j then 1 else 0 := fun a j => by
      rw [Nat.testBit_eq_decide_div_mod_eq]
      rcases Nat.mod_two_eq_zero_or_one (a / 2 ^ j) with h | h <;> simp [h]
    rw [h1, h1]
    have h2 : (rev8 c).toNat.testBit k = c.toNat.testBit (7 - k) := by
      have := rev8_get c.toBitVec k (by omega)
      rw [← BitVec.testBit_toNat, ← BitVec.testBit_toNat] at this
      exact this
    rw [h2]
theorem rhi_byte (v : BitVec 32) (c : UInt8) : rhi v c.toNat 8 = hbyte v c := by
  rw [← rev_rev (rhi v c.toNat 8), rhi_rev _ _ _ (by decide), rlo_byte, ← hbyte_rev, rev_rev]
end Go.Proofs.Ytglhkkcogdbidaa.M
