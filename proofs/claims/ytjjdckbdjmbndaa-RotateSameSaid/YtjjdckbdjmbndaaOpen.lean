/- What the rows' steps share: a slice that came in, as the walks are told of it. -/
import Derived.Test.YtjjdckbdjmbndaaRows
import Derived.Test.YtjjdckbdjmbndaaLib
import Derived.ProofKit
import Derived.OpenShut
import Derived.ShutString
import Derived.ChangeOld
namespace Go.Proofs.Ytjjdckbdjmbndaa
set_option linter.unusedSimpArgs false
set_option linter.unusedVariables false
open Go.ChangeShapes Go.WideShapes Go.ChangeAt Go.RowKit

theorem ownK : ownKnob Try.prog.godebug = none := by kernel_rfl
theorem laidOut : laidOutB Try.prog = true := by kernel_rfl

/-- a slice of integers that came in: it is nil; or it leads to a row of 'cap' cells, the numbers 'zs', each fitting its kind -/
def IsRow (k : IntKind) (w : World) (a : Option Addr) (len cap : Nat) (zs : List Int) : Prop :=
  (a = none ∧ len = 0 ∧ cap = 0 ∧ zs = []) ∨
  ∃ x, a = some x ∧ len ≤ cap ∧ cap ≤ maxLen ∧ zs.length = cap ∧ (∀ i, i < zs.length → w.cell? (x.add i) = some (.int k (zs.getD i 0))) ∧ ∀ n ∈ zs, (Lit.int k n).wf = true

theorem isRow_rd {k : IntKind} {w : World} {a : Option Addr} {len cap : Nat} {zs : List Int} (h : IsRow k w a len cap zs) : Rd w 1 a len cap ((zs.take len).map (Value.int k)) ∧ ∀ n ∈ zs.take len, (Lit.int k n).wf = true := by
  rcases h with ⟨rfl, rfl, rfl, rfl⟩ | ⟨x, rfl, hl, hm, hz, hc, hw⟩
  · exact ⟨⟨rfl, Nat.le_refl _, Nat.zero_le _, fun _ => rfl, by simp, fun a ha => (by cases ha)⟩, by simp⟩
  · refine ⟨⟨by simp; omega, hl, hm, fun e => (by cases e), ints_oneCell _ _, fun a ha j u hu => ?_⟩, fun n hn => hw n (List.mem_of_mem_take hn)⟩
    cases ha
    have hj : j < len := by
      have := (List.getElem?_eq_some_iff.1 hu).1
      simp at this; omega
    have hjz : j < zs.length := by omega
    rw [hc j hjz, ← hu]
    simp [List.getD, hj, hjz]

theorem isRow_B8 {w : World} {a : Option Addr} {len cap : Nat} {zs : List Int} (h : IsRow .u8 w a len cap zs) : ∃ xs, Rd w 1 a len cap (B8 xs) := by
  obtain ⟨h1, h2⟩ := isRow_rd h
  refine ⟨(zs.take len).map fun n => UInt8.ofNat n.toNat, ?_⟩
  have e : B8 ((zs.take len).map fun n => UInt8.ofNat n.toNat) = (zs.take len).map (Value.int .u8) := by
    simp only [B8, List.map_map]
    refine List.map_congr_left fun n hn => ?_
    have hb := Go.bounds_u8 (h2 n hn)
    simp only [Function.comp]
    congr 1
    simp [UInt8.toNat_ofNat']
    omega
  rw [e]; exact h1
theorem isRow_I64 {w : World} {a : Option Addr} {len cap : Nat} {zs : List Int} (h : IsRow .i64 w a len cap zs) : ∃ xs : List Int, Rd w 1 a len cap (I64 xs) ∧ ∀ x ∈ xs, (-9223372036854775808 : Int) ≤ x ∧ x ≤ 9223372036854775807 := by
  obtain ⟨h1, h2⟩ := isRow_rd h
  exact ⟨_, h1, fun n hn => by have := Go.bounds_i64 (h2 n hn); omega⟩

theorem wf_bv32 {a : Int} (h : (Lit.int .u32 a).wf = true) : ∃ x : BitVec 32, a = (x.toNat : Int) := by
  have hb := Go.bounds_u32 h
  exact ⟨BitVec.ofNat 32 a.toNat, by rw [BitVec.toNat_ofNat]; omega⟩
theorem wf_u16 {a : Int} (h : (Lit.int .u16 a).wf = true) : ∃ x : Nat, a = (x : Int) ∧ x < 65536 := by
  have hb := Go.bounds_u16 h
  exact ⟨a.toNat, by omega, by omega⟩
theorem wf_u8 {a : Int} (h : (Lit.int .u8 a).wf = true) : ∃ x : UInt8, a = (x.toNat : Int) := by
  have hb := Go.bounds_u8 h
  exact ⟨UInt8.ofNat a.toNat, by simp [UInt8.toNat_ofNat']; omega⟩
theorem wf_i64 {a : Int} (h : (Lit.int .i64 a).wf = true) : (-9223372036854775808 : Int) ≤ a ∧ a ≤ 9223372036854775807 := by
  have hb := Go.bounds_i64 h
  omega
end Go.Proofs.Ytjjdckbdjmbndaa
