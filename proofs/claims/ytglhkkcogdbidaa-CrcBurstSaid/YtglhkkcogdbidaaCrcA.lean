import Derived.Test.YtglhkkcogdbidaaRows
import Derived.Test.YtglhkkcogdbidaaLib
import Derived.Test.YtglhkkcogdbidaaCrcN
namespace Go.Proofs.Ytglhkkcogdbidaa
set_option linter.unusedSimpArgs false
set_option linter.unusedVariables false
open Go.RowKit M

def crcZ : Array Value := Array.replicate 256 (.int .u32 0)
def tabOf (f : Nat → BitVec 32) (k : Nat) : Array Value := Array.ofFn (n := 256) fun i => if i.val < k then .int .u32 ((f i.val).toNat : Int) else .int .u32 0
theorem tabOf_zero (f : Nat → BitVec 32) : tabOf f 0 = crcZ := by
  apply Array.ext <;> simp [tabOf, crcZ]
theorem tabOf_get (f : Nat → BitVec 32) (k i : Nat) (hi : i < 256) : (tabOf f k)[i]? = some (if i < k then .int .u32 ((f i).toNat : Int) else .int .u32 0) := by
  simp [tabOf, hi]
theorem tabOf_set (f : Nat → BitVec 32) (k : Nat) (hk : k < 256) : (tabOf f k).setIfInBounds k (.int .u32 ((f k).toNat : Int)) = tabOf f (k + 1) := by
  apply Array.ext_getElem?
  intro i
  rw [Array.getElem?_setIfInBounds]
  by_cases h : k = i
  · subst h; simp [tabOf, hk]
  · rw [if_neg h]
    by_cases hi : i < 256
    · rw [tabOf_get f k i hi, tabOf_get f (k+1) i hi]
      have : (i < k) = (i < k + 1) := by apply propext; omega
      simp only [this]
    · simp [tabOf, hi]

theorem zero33 (w : World) : (zeroValue 33).run Try.prog w = .ok (.agg crcZ) w := by kernel_rfl

/-- what the outer loop keeps -/
def TabInv (B : Nat) (f : Nat → BitVec 32) (w : World) (k : Nat) (wr : World) : Prop :=
  wr.heap[B + 1]? = some (.cells (tabOf f k) 33 (0, 0)) ∧ wr.heap[B]? = some (.cells crcZ 33 (0, 0)) ∧ Below B w wr

theorem bv_of (z : BitVec 32) : BitVec.ofInt 32 (z.toNat : Int) = z := by rw [BitVec.ofInt_natCast, BitVec.ofNat_toNat]; simp
theorem bv_wrap (z : BitVec 32) : IntKind.u32.wrap (z.toNat : Int) = (z.toNat : Int) := by rw [IntKind.wrap_u32]; have := z.isLt; omega
theorem bv_xor (x y : BitVec 32) : bits .xor .u32 (x.toNat : Int) (y.toNat : Int) = ((x ^^^ y).toNat : Int) := by
  show IntKind.u32.wrap ((BitVec.ofInt 32 (x.toNat:Int) ^^^ BitVec.ofInt 32 (y.toNat:Int)).toNat : Int) = _
  rw [bv_of, bv_of, bv_wrap]
theorem bv_and (x y : BitVec 32) : bits .and .u32 (x.toNat : Int) (y.toNat : Int) = ((x &&& y).toNat : Int) := by
  show IntKind.u32.wrap ((BitVec.ofInt 32 (x.toNat:Int) &&& BitVec.ofInt 32 (y.toNat:Int)).toNat : Int) = _
  rw [bv_of, bv_of, bv_wrap]
theorem bv_shr1 (x : BitVec 32) : (x.toNat : Int) / (2 : Int) = ((x >>> 1).toNat : Int) := by simp [BitVec.toNat_ushiftRight, Nat.shiftRight_eq_div_pow]
theorem bv_shr8 (x : BitVec 32) : (x.toNat : Int) / (256 : Int) = ((x >>> 8).toNat : Int) := by simp [BitVec.toNat_ushiftRight, Nat.shiftRight_eq_div_pow]
theorem bv_shr24 (x : BitVec 32) : (x.toNat : Int) / (16777216 : Int) = ((x >>> 24).toNat : Int) := by simp [BitVec.toNat_ushiftRight, Nat.shiftRight_eq_div_pow]
theorem bv_shr31 (x : BitVec 32) : (x.toNat : Int) / (2147483648 : Int) = ((x >>> 31).toNat : Int) := by simp [BitVec.toNat_ushiftRight, Nat.shiftRight_eq_div_pow]
theorem bv_shl1 (x : BitVec 32) : (x.toNat : Int) * (2 : Int) % (4294967296 : Int) = ((x <<< 1).toNat : Int) := by simp [BitVec.toNat_shiftLeft, Nat.shiftLeft_eq]
theorem bv_shl8 (x : BitVec 32) : (x.toNat : Int) * (256 : Int) % (4294967296 : Int) = ((x <<< 8).toNat : Int) := by simp [BitVec.toNat_shiftLeft, Nat.shiftLeft_eq]
theorem bv_shl24 (x : BitVec 32) : (x.toNat : Int) * (16777216 : Int) % (4294967296 : Int) = ((x <<< 24).toNat : Int) := by simp [BitVec.toNat_shiftLeft, Nat.shiftLeft_eq]
theorem bv_neg (x : BitVec 32) : -(x.toNat : Int) % (4294967296 : Int) = ((-x).toNat : Int) := by
  have := x.isLt
  rw [BitVec.toNat_neg]; omega
theorem bv_lit (n : Nat) (h : n < 4294967296) : (n : Int) = ((BitVec.ofNat 32 n).toNat : Int) := by
  rw [BitVec.toNat_ofNat]; omega

theorem lowBit_int (a : BitVec 32) : bits .xor .u32 ((a.toNat : Int) / 2) (bits .and .u32 3988292384 (-bits .and .u32 (a.toNat : Int) 1 % 4294967296)) = ((lowBit a).toNat : Int) := by
  rw [show (1 : Int) = ((1#32 : BitVec 32).toNat : Int) from rfl, bv_and, bv_neg, show (3988292384 : Int) = ((3988292384#32 : BitVec 32).toNat : Int) from rfl, bv_and, bv_shr1, bv_xor]
  rfl
theorem highBit_int (a : BitVec 32) : bits .xor .u32 ((a.toNat : Int) * 2 % 4294967296) (bits .and .u32 79764919 (-((a.toNat : Int) / 2147483648) % 4294967296)) = ((highBit a).toNat : Int) := by
  rw [bv_shr31, bv_neg, show (79764919 : Int) = ((79764919#32 : BitVec 32).toNat : Int) from rfl, bv_and, bv_shl1, bv_xor]
  rfl

theorem ret32 {a b : Int} (h : a = b) : Ending.returned (.int .u32 a) = .returned (.int .u32 b) := by rw [h]

theorem lowb_any (a : BitVec 32) (w : World) :
    Calls Try.prog 20 #[.int .u32 (a.toNat : Int)] w fun e w' => e = .returned (.int .u32 ((lowBit a).toNat : Int)) ∧ w = w' := by
  have hb := a.isLt
  go_enter Try.func20, Try.ntmps20
  go_wp2
  go_ret
  exact ⟨ret32 (lowBit_int a), rfl⟩
theorem lowc_any (j : Nat) (w : World) (hj : j < 256) :
    Calls Try.prog 19 #[.int .u32 (j : Int)] w fun e w' => e = .returned (.int .u32 ((BitVec.ofNat 32 j).toNat : Int)) ∧ w = w' := by
  go_enter Try.func19, Try.ntmps19
  go_wp2
  go_ret
  exact ⟨ret32 (bv_lit j (by omega)), rfl⟩
theorem highb_any (a : BitVec 32) (w : World) :
    Calls Try.prog 22 #[.int .u32 (a.toNat : Int)] w fun e w' => e = .returned (.int .u32 ((highBit a).toNat : Int)) ∧ w = w' := by
  have hb := a.isLt
  go_enter Try.func22, Try.ntmps22
  go_wp2
  go_ret
  exact ⟨ret32 (highBit_int a), rfl⟩
theorem highc_any (j : Nat) (w : World) (hj : j < 256) :
    Calls Try.prog 21 #[.int .u32 (j : Int)] w fun e w' => e = .returned (.int .u32 ((BitVec.ofNat 32 j <<< 24).toNat : Int)) ∧ w = w' := by
  have e : (j : Int) * 16777216 = ((BitVec.ofNat 32 j <<< 24).toNat : Int) := by
    rw [← bv_shl24, ← bv_lit j (by omega)]; omega
  have HE := Lib.hid e; clear e
  go_enter Try.func21, Try.ntmps21
  go_wp2
  go_ret
  exact ⟨ret32 HE.out, rfl⟩
end Go.Proofs.Ytglhkkcogdbidaa
