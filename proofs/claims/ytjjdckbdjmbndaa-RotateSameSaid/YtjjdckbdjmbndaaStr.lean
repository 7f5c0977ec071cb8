/- Texts of bytes: compared, cut, joined. Of no program. -/
import Derived.Test.YtjjdckbdjmbndaaNat
namespace Go.Proofs.Ytjjdckbdjmbndaa
set_option linter.unusedSimpArgs false
set_option linter.unusedVariables false
open Go.RowKit

theorem bstr_list (xs : List UInt8) : (bstr xs).toList = xs := by simp [bstr, ByteArray.toList_eq]
theorem bstr_app (xs ys : List UInt8) : bstr xs ++ bstr ys = bstr (xs ++ ys) := by
  apply ByteArray.ext
  simp [bstr, ByteArray.data_append]
theorem bstr_size (xs : List UInt8) : (bstr xs).size = xs.length := by simp [bstr, ByteArray.size]

/-- a text's t-th sign; 0 behind its end -/
def sgn (xs : List UInt8) (t : Nat) : Nat := match xs[t]? with | some c => c.toNat + 1 | none => 0
theorem sgn_nil (t : Nat) : sgn [] t = 0 := by simp [sgn]
theorem sgn_zero (c : UInt8) (xs : List UInt8) : sgn (c :: xs) 0 = c.toNat + 1 := by simp [sgn]
theorem sgn_succ (c : UInt8) (xs : List UInt8) (t : Nat) : sgn (c :: xs) (t + 1) = sgn xs t := by simp [sgn]
theorem sgn_in (xs : List UInt8) (t : Nat) (h : t < xs.length) : sgn xs t = (at8 xs t).toNat + 1 := by simp [sgn, at8, h]
theorem sgn_out (xs : List UInt8) (t : Nat) (h : xs.length ≤ t) : sgn xs t = 0 := by simp [sgn, h]

theorem less_iff : ∀ xs ys : List UInt8, Op.bytesLess xs ys = true ↔ ∃ t, (∀ s, s < t → sgn xs s = sgn ys s) ∧ sgn xs t < sgn ys t
  | xs, [] => by
    have : Op.bytesLess xs [] = false := by cases xs <;> rfl
    rw [this]
    constructor
    · intro h; cases h
    · rintro ⟨t, _, h⟩; rw [sgn_nil] at h; omega
  | [], y :: ys => by
    constructor
    · intro _; exact ⟨0, fun s h => by omega, by rw [sgn_nil, sgn_zero]; omega⟩
    · intro _; rfl
  | x :: xs, y :: ys => by
    rw [show Op.bytesLess (x :: xs) (y :: ys) = (decide (x < y) || (x == y && Op.bytesLess xs ys)) from rfl, Bool.or_eq_true, Bool.and_eq_true, decide_eq_true_iff, beq_iff_eq, less_iff xs ys]
    constructor
    · rintro (h | ⟨rfl, t, h1, h2⟩)
      · exact ⟨0, fun s hs => by omega, by rw [sgn_zero, sgn_zero]; have := UInt8.lt_iff_toNat_lt.1 h; omega⟩
      · refine ⟨t + 1, fun s hs => ?_, by rw [sgn_succ, sgn_succ]; exact h2⟩
        cases s with
        | zero => rw [sgn_zero, sgn_zero]
        | succ s => rw [sgn_succ, sgn_succ]; exact h1 s (by omega)
    · rintro ⟨t, h1, h2⟩
      cases t with
      | zero => rw [sgn_zero, sgn_zero] at h2; exact .inl (UInt8.lt_iff_toNat_lt.2 (by omega))
      | succ t =>
        have h0 := h1 0 (by omega)
        rw [sgn_zero, sgn_zero] at h0
        refine .inr ⟨UInt8.toNat_inj.1 (by omega), t, fun s hs => ?_, ?_⟩
        · have := h1 (s + 1) (by omega); rwa [sgn_succ, sgn_succ] at this
        · rwa [sgn_succ, sgn_succ] at h2
theorem eq_iff : ∀ xs ys : List UInt8, xs = ys ↔ ∀ t, sgn xs t = sgn ys t
  | [], [] => by simp
  | x :: xs, [] => by
    constructor
    · intro h; cases h
    · intro h; have := h 0; rw [sgn_zero, sgn_nil] at this; omega
  | [], y :: ys => by
    constructor
    · intro h; cases h
    · intro h; have := h 0; rw [sgn_zero, sgn_nil] at this; omega
  | x :: xs, y :: ys => by
    constructor
    · intro h t; rw [h]
    · intro h
      have h0 := h 0
      rw [sgn_zero, sgn_zero] at h0
      have : xs = ys := (eq_iff xs ys).2 fun t => by have := h (t + 1); rwa [sgn_succ, sgn_succ] at this
      rw [this, UInt8.toNat_inj.1 (show x.toNat = y.toNat by omega)]

section
variable {P : Program} {w : World}
@[go_sem high] theorem text_gtr (t : TypeId) (x y : List UInt8) : binOp .gtr t (.string (bstr x)) (.string (bstr y)) = pure (.bool (!(Op.bytesLess x y || x == y))) := by simp [binOp, Op.stringOp, bstr_list]
@[go_sem high] theorem text_geq (t : TypeId) (x y : List UInt8) : binOp .geq t (.string (bstr x)) (.string (bstr y)) = pure (.bool (!(Op.bytesLess x y))) := by simp [binOp, Op.stringOp, bstr_list]
@[go_sem high] theorem text_eql (t : TypeId) (x y : List UInt8) : binOp .eql t (.string (bstr x)) (.string (bstr y)) = pure (.bool (x == y)) := by simp [binOp, Op.stringOp, bstr_list]
@[go_sem high] theorem text_neq (t : TypeId) (x y : List UInt8) : binOp .neq t (.string (bstr x)) (.string (bstr y)) = pure (.bool !(x == y)) := by simp [binOp, Op.stringOp, bstr_list]
theorem run_text_add (t : TypeId) (x y : List UInt8) (h : x.length + y.length ≤ 9223372036854775807) : (binOp .add t (.string (bstr x)) (.string (bstr y))).run P w = .ok (.string (bstr (x ++ y))) w := by
  have : ¬ ((((bstr x).size + (bstr y).size : Nat) : Int) > IntKind.i64.max) := by
    rw [bstr_size, bstr_size, show IntKind.i64.max = 9223372036854775807 from rfl]; omega
  simp only [binOp, Op.stringOp, if_neg this, bstr_app]
  rfl

/-- a slice's rest -/
def cutA (ad : Option Addr) (i cap : Nat) : Option Addr := if cap = i then ad else ad.map (·.add i)
theorem Rd.cut {ad : Option Addr} {n cap : Nat} {cs : List Value} (h : Rd w 1 ad n cap cs) (i j : Nat) (hij : i ≤ j) (hj : j ≤ n) : Rd w 1 (cutA ad i cap) (j - i) (cap - i) ((cs.take j).drop i) := by
  have hl := h.len
  have hn := h.ncap
  have hm := h.capM
  refine ⟨by simp; omega, by omega, by omega, fun e => ?_, fun u hu => h.one u (List.mem_of_mem_take (List.mem_of_mem_drop hu)), fun a ha k u hu => ?_⟩
  · unfold cutA at e
    split at e
    · omega
    · cases ad with
      | none => have := h.nil rfl; omega
      | some a => simp at e
  · have hk : k < j - i := by have := (List.getElem?_eq_some_iff.1 hu).1; simp at this; omega
    rw [List.getElem?_drop, List.getElem?_take_of_lt (by omega)] at hu
    unfold cutA at ha
    rw [if_neg (by omega)] at ha
    cases ad with
    | none => cases ha
    | some a0 =>
      simp at ha
      subst ha
      rw [Addr.add_add]
      exact h.cell a0 rfl _ u hu
theorem run_cut {t e : Nat} (hu : P.underlying t = some (.slice e)) (hs : (P.info? e).map (·.size) = some 1) {ad : Option Addr} {n cap : Nat} {cs : List Value} (h : Rd w 1 ad n cap cs) (i : Nat) (hi : i ≤ n) (W : World) :
    (Instr.slice t (.slice ad n cap) (some (.int .i64 (i : Int))) none none).run P W = .ok (.slice (cutA ad i cap) (n - i) (cap - i)) W := by
  have hel : P.elem t = e := by simp [Program.elem, hu]
  rw [run_slice_l (P := P) W t ad n cap (by rw [hel]; exact hu) .i64 (i : Int) (by omega) (by omega), hel]
  have h1 : (sizeOf e).run P W = .ok 1 W := by
    cases h2 : P.info? e with
    | none => rw [h2] at hs; simp at hs
    | some inf => rw [h2] at hs; simp at hs; simp [sizeOf, typeInfo, h2, hs]
  rw [h1]
  simp [sliced, cutA]
theorem run_cut2 {t e : Nat} (hu : P.underlying t = some (.slice e)) (hs : (P.info? e).map (·.size) = some 1) {ad : Option Addr} {n cap : Nat} {cs : List Value} (h : Rd w 1 ad n cap cs) (i j : Nat) (hi : i ≤ j) (hj : j ≤ n) (W : World) :
    (Instr.slice t (.slice ad n cap) (some (.int .i64 (i : Int))) (some (.int .i64 (j : Int))) none).run P W = .ok (.slice (cutA ad i cap) (j - i) (cap - i)) W := by
  have hn := h.ncap
  have hel : P.elem t = e := by simp [Program.elem, hu]
  rw [run_slice_lh (P := P) W t ad n cap (by rw [hel]; exact hu) .i64 .i64 (i : Int) (j : Int) (by omega) (by omega) (by omega), hel]
  have h1 : (sizeOf e).run P W = .ok 1 W := by
    cases h2 : P.info? e with
    | none => rw [h2] at hs; simp at hs
    | some inf => rw [h2] at hs; simp at hs; simp [sizeOf, typeInfo, h2, hs]
  rw [h1]
  simp [sliced, cutA]
end
theorem B8_take (b : List UInt8) (i : Nat) : (B8 b).take i = B8 (b.take i) := by simp [B8, List.map_take]
theorem B8_drop (b : List UInt8) (i : Nat) : (B8 b).drop i = B8 (b.drop i) := by simp [B8, List.map_drop]
theorem Rd.from8 {w : World} {ad : Option Addr} {n cap : Nat} {b : List UInt8} (h : Rd w 1 ad n cap (B8 b)) (i : Nat) (hi : i ≤ n) : Rd w 1 (cutA ad i cap) (n - i) (cap - i) (B8 (b.drop i)) := by
  have h1 := h.cut i n hi (Nat.le_refl _)
  rwa [show (B8 b).take n = B8 b by rw [List.take_of_length_le]; rw [B8_len, h.len8]; exact Nat.le_refl _, B8_drop] at h1
theorem Rd.to8 {w : World} {ad : Option Addr} {n cap : Nat} {b : List UInt8} (h : Rd w 1 ad n cap (B8 b)) (i : Nat) (hi : i ≤ n) : Rd w 1 ad i cap (B8 (b.take i)) := by
  have hn := h.ncap
  rw [← B8_take]
  exact ⟨by simp [B8_len, h.len8]; omega, by omega, h.capM, h.nil, fun u hu => h.one u (List.mem_of_mem_take hu), fun a ha k u hu => by
    have hk : k < i := by have := (List.getElem?_eq_some_iff.1 hu).1; simp at this; omega
    rw [List.getElem?_take_of_lt hk] at hu
    exact h.cell a ha k u hu⟩
end Go.Proofs.Ytjjdckbdjmbndaa
