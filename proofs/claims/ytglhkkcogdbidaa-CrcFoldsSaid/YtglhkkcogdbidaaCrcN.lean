/- Plain mathematics of the sums, whole rows of bytes: what the laws of layer 3 lean on. Nothing of the program. -/
import Derived.Test.YtglhkkcogdbidaaCrcM
namespace Go.Proofs.Ytglhkkcogdbidaa.M
set_option linter.unusedSimpArgs false
set_option linter.unusedVariables false

def lowReg (xs : List UInt8) : BitVec 32 := xs.foldl lbyte (~~~0#32)
def highReg (xs : List UInt8) : BitVec 32 := xs.foldl hbyte (~~~0#32)
def lowS (xs : List UInt8) : BitVec 32 := ~~~(lowReg xs)
def highS (xs : List UInt8) : BitVec 32 := ~~~(highReg xs)
def rlowReg (xs : List UInt8) : BitVec 32 := xs.foldl (fun v c => rlo v c.toNat 8) (~~~0#32)
def rhighReg (xs : List UInt8) : BitVec 32 := xs.foldl (fun v c => rhi v c.toNat 8) (~~~0#32)
def foldS (a b : BitVec 32) : BitVec 32 := a <<< 1 ^^^ a >>> 31 ^^^ b
def turnO (v : BitVec 32) : Nat → BitVec 32
  | 0 => 0#32
  | k + 1 => turnO v k * 2#32 + (v >>> k) % 2#32

theorem rlowReg_eq (xs : List UInt8) : rlowReg xs = lowReg xs := by
  simp only [rlowReg, rlo_byte]; rfl
theorem rhighReg_eq (xs : List UInt8) : rhighReg xs = highReg xs := by
  simp only [rhighReg, rhi_byte]; rfl

theorem rev_fold (xs : List UInt8) (v : BitVec 32) : (xs.foldl hbyte v).reverse = (xs.map rev8).foldl lbyte v.reverse := by
  induction xs generalizing v with
  | nil => rfl
  | cons c xs ih => simp only [List.foldl_cons, List.map_cons]; rw [ih, hbyte_rev]
theorem ones_rev : (~~~0#32 : BitVec 32).reverse = ~~~0#32 := by decide +kernel
theorem highReg_rev (xs : List UInt8) : (highReg xs).reverse = lowReg (xs.map rev8) := by
  unfold highReg lowReg; rw [rev_fold, ones_rev]
theorem rev_not (x : BitVec 32) : (~~~x).reverse = ~~~x.reverse := by
  apply ext32; intro i hi
  rw [rev_get _ _ hi, BitVec.getLsbD_not, BitVec.getLsbD_not, rev_get _ _ hi]; simp [hi]; omega
theorem highS_rev (xs : List UInt8) : (highS xs).reverse = lowS (xs.map rev8) := by
  unfold highS lowS; rw [rev_not, highReg_rev]
theorem rev_inj {x y : BitVec 32} (h : x.reverse = y.reverse) : x = y := by rw [← rev_rev x, h, rev_rev]

/-! Turn -/
theorem bit_mod (y : BitVec 32) : y % 2#32 = if y.getLsbD 0 then 1#32 else 0#32 := by
  apply BitVec.eq_of_toNat_eq
  rw [BitVec.toNat_umod]
  show y.toNat % 2 = _
  rw [par_toNat]
  cases y.getLsbD 0 <;> rfl
theorem dbl_get (x : BitVec 32) (b : Bool) (i : Nat) (hi : i < 32) : (x * 2#32 + (if b then 1#32 else 0#32)).getLsbD i = if i = 0 then b else x.getLsbD (i - 1) := by
  have e : x * 2#32 = x <<< 1 := by
    apply BitVec.eq_of_toNat_eq
    rw [BitVec.toNat_mul, BitVec.toNat_shiftLeft, Nat.shiftLeft_eq]; rfl
  rw [e]
  have hand : (x <<< 1) &&& (if b then 1#32 else 0#32) = 0#32 := by
    apply ext32; intro j hj
    rw [BitVec.getLsbD_and, BitVec.getLsbD_shiftLeft]
    cases b
    · simp
    · by_cases h : j = 0
      · simp [h]
      · simp [h, BitVec.getLsbD_one]
  rw [BitVec.add_eq_or_of_and_eq_zero _ _ hand, BitVec.getLsbD_or, BitVec.getLsbD_shiftLeft]
  by_cases h : i = 0
  · subst h; cases b <;> simp
  · cases b <;> simp [h, hi, BitVec.getLsbD_one, show ¬ i < 1 by omega]
theorem turnO_get (v : BitVec 32) (n : Nat) (hn : n ≤ 32) (i : Nat) (hi : i < 32) : (turnO v n).getLsbD i = (decide (i < n) && v.getLsbD (n - 1 - i)) := by
  induction n generalizing i with
  | zero => simp [turnO]
  | succ n ih =>
    rw [turnO, bit_mod, dbl_get _ _ _ hi, BitVec.getLsbD_ushiftRight]
    by_cases h : i = 0
    · subst h; simp
    · rw [if_neg h, ih (by omega) _ (by omega), show n + 1 - 1 - i = n - 1 - (i - 1) by omega]
      congr 1
      apply decide_eq_decide.2; omega
theorem turnO_32 (v : BitVec 32) : turnO v 32 = v.reverse := by
  apply ext32; intro i hi
  rw [turnO_get _ _ (by decide) _ hi, rev_get _ _ hi]; simp [hi]
theorem turnO_8 (c : UInt8) : (turnO (ext8 c.toBitVec) 8).setWidth 8 = (rev8 c).toBitVec := by
  apply BitVec.eq_of_getLsbD_eq; intro i hi
  rw [BitVec.getLsbD_setWidth, turnO_get _ _ (by decide) _ (by omega), ext8_get]
  show _ = c.toBitVec.reverse.getLsbD i
  rw [rev8_get _ _ hi]; simp [hi]
theorem turned (xs : List UInt8) : highS xs = turnO (lowS (xs.map rev8)) 32 := by
  rw [turnO_32, ← highS_rev, rev_rev]

/-! three rows -/
theorem ext8_xor (x y : BitVec 8) : ext8 (x ^^^ y) = ext8 x ^^^ ext8 y := by
  apply ext32; intro i hi
  rw [ext8_get, BitVec.getLsbD_xor, BitVec.getLsbD_xor, ext8_get, ext8_get]
theorem lbyte_xor (u v : BitVec 32) (c d : UInt8) : lbyte (u ^^^ v) (c ^^^ d) = lbyte u c ^^^ lbyte v d := by
  rw [lbyte_iter, lbyte_iter, lbyte_iter, ← iter_xor]
  congr 1
  show u ^^^ v ^^^ ext8 (c.toBitVec ^^^ d.toBitVec) = _
  rw [ext8_xor, xor4]
theorem fold3 (a x y z : List UInt8) (u v w : BitVec 32) (hx : x.length = a.length) (hy : y.length = a.length) (hz : z.length = a.length)
    (h : ∀ i, i < a.length → z.getD i 0 = a.getD i 0 ^^^ x.getD i 0 ^^^ y.getD i 0) :
    z.foldl lbyte (u ^^^ v ^^^ w) = a.foldl lbyte u ^^^ x.foldl lbyte v ^^^ y.foldl lbyte w := by
  induction a generalizing x y z u v w with
  | nil =>
    have := List.eq_nil_of_length_eq_zero hx; have := List.eq_nil_of_length_eq_zero hy; have := List.eq_nil_of_length_eq_zero hz
    subst_vars; rfl
  | cons a0 a ih =>
    match x, y, z, hx, hy, hz, h with
    | x0 :: x, y0 :: y, z0 :: z, hx, hy, hz, h =>
      have h0 := h 0 (by simp)
      simp at h0
      simp only [List.foldl_cons]
      rw [h0, lbyte_xor, lbyte_xor]
      exact ih x y z _ _ _ (by simpa using hx) (by simpa using hy) (by simpa using hz) (fun i hi => by have := h (i + 1) (by simp; omega); simpa using this)
theorem ones3 : (~~~0#32 : BitVec 32) = ~~~0#32 ^^^ ~~~0#32 ^^^ ~~~0#32 := by decide
theorem not3 (a b c : BitVec 32) : ~~~(a ^^^ b ^^^ c) = ~~~a ^^^ ~~~b ^^^ ~~~c := by
  apply ext32; intro i hi
  simp only [BitVec.getLsbD_xor, BitVec.getLsbD_not, hi, decide_true, Bool.true_and]
  cases a.getLsbD i <;> cases b.getLsbD i <;> cases c.getLsbD i <;> rfl
theorem three_low (a x y z : List UInt8) (hx : x.length = a.length) (hy : y.length = a.length) (hz : z.length = a.length)
    (h : ∀ i, i < a.length → z.getD i 0 = a.getD i 0 ^^^ x.getD i 0 ^^^ y.getD i 0) : lowS z = lowS a ^^^ lowS x ^^^ lowS y := by
  unfold lowS lowReg
  rw [← not3, ← fold3 a x y z _ _ _ hx hy hz h, ← ones3]
theorem rev8x (c d : UInt8) : rev8 (c ^^^ d) = rev8 c ^^^ rev8 d := by
  apply UInt8.eq_of_toBitVec_eq
  exact rev8_xor c.toBitVec d.toBitVec
theorem rev8_0 : rev8 0 = 0 := by decide +kernel
theorem map_getD (xs : List UInt8) (i : Nat) : (xs.map rev8).getD i 0 = rev8 (xs.getD i 0) := by
  simp only [List.getD_eq_getElem?_getD, List.getElem?_map]
  cases xs[i]? <;> simp [rev8_0]
theorem three_high (a x y z : List UInt8) (hx : x.length = a.length) (hy : y.length = a.length) (hz : z.length = a.length)
    (h : ∀ i, i < a.length → z.getD i 0 = a.getD i 0 ^^^ x.getD i 0 ^^^ y.getD i 0) : highS z = highS a ^^^ highS x ^^^ highS y := by
  apply rev_inj
  rw [rev_xor, rev_xor, highS_rev, highS_rev, highS_rev, highS_rev]
  refine three_low _ _ _ _ (by simpa using hx) (by simpa using hy) (by simpa using hz) fun i hi => ?_
  rw [map_getD, map_getD, map_getD, map_getD, h i (by simpa using hi), rev8x, rev8x]

/-! a sum behind its bytes -/
theorem word_step (x s : BitVec 32) (k : Nat) : lbyte (x ^^^ s >>> k) ⟨(s >>> k).setWidth 8⟩ = iter lowBit 8 x ^^^ s >>> (k + 8) := by
  rw [lbyte_iter]
  have e : x ^^^ s >>> k ^^^ ext8 ((s >>> k).setWidth 8) = x ^^^ (s >>> k >>> 8 <<< 8) := by
    rw [BitVec.xor_assoc]; congr 1
    apply ext32; intro i hi
    simp only [BitVec.getLsbD_xor, ext8_get, BitVec.getLsbD_shiftLeft, BitVec.getLsbD_ushiftRight, BitVec.getLsbD_setWidth]
    by_cases h : i < 8
    · simp [h]
    · simp [h, hi, show 8 + (i - 8) = i by omega]
  rw [e, iter_xor, iter_even 8 (s >>> k >>> 8 <<< 8) (fun i hi => by simp [BitVec.getLsbD_shiftLeft, hi])]
  congr 1
  apply ext32; intro i hi
  simp only [BitVec.getLsbD_ushiftRight, BitVec.getLsbD_shiftLeft]
  by_cases h : 8 + i < 32
  · simp [h, Nat.add_assoc]
  · simp [h, BitVec.getLsbD_of_ge s (k + 8 + i) (by omega)]
def le4 (s : BitVec 32) : List UInt8 := [⟨s.setWidth 8⟩, ⟨(s >>> 8).setWidth 8⟩, ⟨(s >>> 16).setWidth 8⟩, ⟨(s >>> 24).setWidth 8⟩]
def be4 (s : BitVec 32) : List UInt8 := [⟨(s >>> 24).setWidth 8⟩, ⟨(s >>> 16).setWidth 8⟩, ⟨(s >>> 8).setWidth 8⟩, ⟨s.setWidth 8⟩]
theorem iter_add (m n : Nat) (x : BitVec 32) : iter lowBit m (iter lowBit n x) = iter lowBit (m + n) x := by
  induction m with
  | zero => simp [iter]
  | succ m ih => rw [show m + 1 + n = m + n + 1 by omega]; simp only [iter]; rw [ih]
theorem word_all (v s : BitVec 32) : (le4 s).foldl lbyte v = iter lowBit 32 (v ^^^ s) := by
  have h0 := word_step (v ^^^ s) s 0
  have h1 := word_step (iter lowBit 8 (v ^^^ s)) s 8
  have h2 := word_step (iter lowBit 16 (v ^^^ s)) s 16
  have h3 := word_step (iter lowBit 24 (v ^^^ s)) s 24
  rw [iter_add] at h1 h2 h3
  have e0 : v ^^^ s ^^^ s >>> 0 = v := by rw [BitVec.ushiftRight_zero, BitVec.xor_assoc, BitVec.xor_self, BitVec.xor_zero]
  rw [e0] at h0
  have ez : s >>> 32 = 0#32 := by
    apply ext32; intro i hi; rw [BitVec.getLsbD_ushiftRight, BitVec.getLsbD_of_ge _ _ (by omega)]; simp
  simp only [le4, List.foldl_cons, List.foldl_nil]
  rw [BitVec.ushiftRight_zero] at h0
  rw [h0, h1, h2, h3, ez, BitVec.xor_zero]
theorem rest_low (xs : List UInt8) : lowS (xs ++ le4 (lowS xs)) = 0x2144df1c#32 := by
  have e : lowReg xs ^^^ lowS xs = BitVec.allOnes 32 := by
    apply ext32; intro i hi
    rw [BitVec.getLsbD_xor, lowS, BitVec.getLsbD_not, BitVec.getLsbD_allOnes]; simp [hi]
  rw [lowS, lowReg, List.foldl_append]
  show ~~~((le4 (lowS xs)).foldl lbyte (lowReg xs)) = _
  rw [word_all, e]
  decide +kernel
theorem be_rev (s : BitVec 32) : (be4 s).map rev8 = le4 s.reverse := by
  have h : ∀ k, k ≤ 24 → rev8 ⟨(s >>> (24 - k)).setWidth 8⟩ = ⟨(s.reverse >>> k).setWidth 8⟩ := fun k hk => by
    apply UInt8.eq_of_toBitVec_eq
    show ((s >>> (24 - k)).setWidth 8).reverse = (s.reverse >>> k).setWidth 8
    apply BitVec.eq_of_getLsbD_eq; intro i hi
    rw [rev8_get _ _ hi, BitVec.getLsbD_setWidth, BitVec.getLsbD_setWidth, BitVec.getLsbD_ushiftRight, BitVec.getLsbD_ushiftRight, rev_get _ _ (by omega)]
    simp [hi, show 7 - i < 8 by omega]; congr 1; omega
  have h0 := h 0 (by decide); have h1 := h 8 (by decide); have h2 := h 16 (by decide); have h3 := h 24 (by decide)
  simp only [be4, le4, List.map_cons, List.map_nil]
  simp only [Nat.sub_zero, BitVec.ushiftRight_zero, Nat.reduceSub, Nat.sub_self] at h0 h1 h2 h3
  rw [h0, h1, h2, h3]
theorem rest_high (xs : List UInt8) : highS (xs ++ be4 (highS xs)) = 0x38fb2284#32 := by
  apply rev_inj
  rw [highS_rev, List.map_append, be_rev, highS_rev, rest_low]
  decide +kernel
end Go.Proofs.Ytglhkkcogdbidaa.M
