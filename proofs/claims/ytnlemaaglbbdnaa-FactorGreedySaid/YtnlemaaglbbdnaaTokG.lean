/- Tokens: may, May, slices.ContainsFunc, slices.IndexFunc. -/
import Derived.Test.YtnlemaaglbbdnaaRegT
import Derived.Test.YtnlemaaglbbdnaaRows
import Derived.Test.YtnlemaaglbbdnaaMore
import Derived.Test.YtnlemaaglbbdnaaNat
import Derived.Test.YtnlemaaglbbdnaaStr
namespace Go.Proofs.Ytnlemaaglbbdnaa
set_option linter.unusedSimpArgs false
set_option linter.unusedVariables false
open Go.RowKit Go.Shelf
attribute [local go_sem] Oper.semAt_some

structure Tok where
  len : Int
  dist : Int
  byte : UInt8
def tokC (t : Tok) : List Value := [.int .i64 t.len, .int .i64 t.dist, .int .u8 (t.byte.toNat : Int)]
def T3 (ts : List Tok) : List Value := ts.flatMap tokC
theorem T3_len (ts : List Tok) : (T3 ts).length = ts.length * 3 := by
  induction ts with
  | nil => rfl
  | cons t ts ih => simp only [T3, List.flatMap_cons, List.length_append] at *; rw [ih]; simp [tokC]; omega
theorem T3_get (ts : List Tok) (k : Nat) (t : Tok) (h : ts[k]? = some t) : (T3 ts)[k * 3]? = some (.int .i64 t.len) ∧ (T3 ts)[k * 3 + 1]? = some (.int .i64 t.dist) ∧ (T3 ts)[k * 3 + 2]? = some (.int .u8 (t.byte.toNat : Int)) := by
  induction ts generalizing k with
  | nil => simp at h
  | cons u ts ih =>
    cases k with
    | zero => simp at h; subst h; simp [T3, tokC]
    | succ k =>
      have := ih k (by simpa using h)
      simp only [T3, List.flatMap_cons] at *
      have hl : (tokC u).length = 3 := rfl
      refine ⟨?_, ?_, ?_⟩
      · rw [List.getElem?_append_right (by rw [hl]; omega), hl, show (k + 1) * 3 - 3 = k * 3 by omega]; exact this.1
      · rw [List.getElem?_append_right (by rw [hl]; omega), hl, show (k + 1) * 3 + 1 - 3 = k * 3 + 1 by omega]; exact this.2.1
      · rw [List.getElem?_append_right (by rw [hl]; omega), hl, show (k + 1) * 3 + 2 - 3 = k * 3 + 2 by omega]; exact this.2.2
theorem sAt_part (ad : Option Addr) (j i : Nat) (hi : i ≠ 0) : sAt ad (j + i) = ⟨(sAt ad j).block, (sAt ad j).off + i, none⟩ := by
  unfold sAt Addr.add
  split
  · omega
  · split <;> simp_all <;> omega
theorem Rd.tok {w : World} {ad : Option Addr} {n cap : Nat} {ts : List Tok} (h : Rd w 3 ad n cap (T3 ts)) {j : Nat} (hj : j < n) :
    ∃ t, ts[j]? = some t ∧ ad ≠ none ∧ w.cell? (sAt ad (j * 3)) = some (.int .i64 t.len) ∧ w.cell? ⟨(sAt ad (j * 3)).block, (sAt ad (j * 3)).off + 1, none⟩ = some (.int .i64 t.dist) ∧ w.cell? ⟨(sAt ad (j * 3)).block, (sAt ad (j * 3)).off + 2, none⟩ = some (.int .u8 (t.byte.toNat : Int)) := by
  have hl : ts.length = n := by have := h.len; rw [T3_len] at this; omega
  obtain ⟨t, ht⟩ : ∃ t, ts[j]? = some t := ⟨ts[j]'(by rw [hl]; exact hj), by simp [hl, hj]⟩
  obtain ⟨g0, g1, g2⟩ := T3_get ts j t ht
  exact ⟨t, ht, h.ne (by omega), h.cellAt g0, by rw [← sAt_part ad _ 1 (by decide)]; exact h.cellAt g1, by rw [← sAt_part ad _ 2 (by decide)]; exact h.cellAt g2⟩
def mayB (t : Tok) : Bool := if t.len = 0 then decide (t.dist = 0) else decide (3 ≤ t.len ∧ t.len ≤ 258 ∧ 1 ≤ t.dist ∧ t.dist ≤ 32768 ∧ t.byte = 0)
def tokV (t : Tok) : Value := .agg #[.int .i64 t.len, .int .i64 t.dist, .int .u8 (t.byte.toNat : Int)]

set_option maxRecDepth 100000 in
set_option maxHeartbeats 2000000 in
theorem may_law (w : World) (t : Tok) : Calls Try.prog 18 #[tokV t] w fun e w' => e = .returned (.bool (mayB t)) ∧ Below w.heap.size w w' := by
  obtain ⟨l, d, b⟩ := t
  simp only [tokV]
  go_enter Try.func18, Try.ntmps18
  have b1 : Below w.heap.size w (w.alloc (.cells #[.int .i64 l, .int .i64 d, .int .u8 (b.toNat : Int)] 31)) := (Below.refl _ w).alloc (Nat.le_refl _) _
  by_cases h : l = 0
  · subst h
    rw [show mayB ⟨0, d, b⟩ = decide (d = 0) from rfl]
    go_wp2_with fail
    go_ret
    exact ⟨rfl, b1⟩
  · rw [show mayB ⟨l, d, b⟩ = decide (3 ≤ l ∧ l ≤ 258 ∧ 1 ≤ d ∧ d ≤ 32768 ∧ b = 0) from if_neg h]
    by_cases h1 : 3 ≤ l
    · by_cases h2 : l ≤ 258
      · by_cases h3 : 1 ≤ d
        · by_cases h4 : d ≤ 32768
          · by_cases h5 : b = 0
            · subst h5
              rw [deT (p := 3 ≤ l ∧ l ≤ 258 ∧ 1 ≤ d ∧ d ≤ 32768 ∧ (0 : UInt8) = 0) ⟨h1, h2, h3, h4, rfl⟩]
              go_wp2_with fail
              go_ret
              exact ⟨rfl, b1⟩
            · have h6 : ((b.toNat : Int) == 0) = false := beq_false_of_ne fun e => h5 (UInt8.toNat_inj.1 (by simpa using e))
              rw [deF (p := 3 ≤ l ∧ l ≤ 258 ∧ 1 ≤ d ∧ d ≤ 32768 ∧ _) (fun ⟨x1, x2, x3, x4, x5⟩ => by first | exact h1 x1 | exact h2 x2 | exact h3 x3 | exact h4 x4 | exact h5 x5)]
              go_wp2_with fail
              go_ret
              exact ⟨rfl, b1⟩
          · skip
            rw [deF (p := 3 ≤ l ∧ l ≤ 258 ∧ 1 ≤ d ∧ d ≤ 32768 ∧ _) (fun ⟨x1, x2, x3, x4, x5⟩ => by first | exact h1 x1 | exact h2 x2 | exact h3 x3 | exact h4 x4 | exact h5 x5)]
            go_wp2_with fail
            go_ret
            exact ⟨rfl, b1⟩
        · skip
          rw [deF (p := 3 ≤ l ∧ l ≤ 258 ∧ 1 ≤ d ∧ d ≤ 32768 ∧ _) (fun ⟨x1, x2, x3, x4, x5⟩ => by first | exact h1 x1 | exact h2 x2 | exact h3 x3 | exact h4 x4 | exact h5 x5)]
          go_wp2_with fail
          go_ret
          exact ⟨rfl, b1⟩
      · skip
        rw [deF (p := 3 ≤ l ∧ l ≤ 258 ∧ 1 ≤ d ∧ d ≤ 32768 ∧ _) (fun ⟨x1, x2, x3, x4, x5⟩ => by first | exact h1 x1 | exact h2 x2 | exact h3 x3 | exact h4 x4 | exact h5 x5)]
        go_wp2_with fail
        go_ret
        exact ⟨rfl, b1⟩
    · skip
      rw [deF (p := 3 ≤ l ∧ l ≤ 258 ∧ 1 ≤ d ∧ d ≤ 32768 ∧ _) (fun ⟨x1, x2, x3, x4, x5⟩ => by first | exact h1 x1 | exact h2 x2 | exact h3 x3 | exact h4 x4 | exact h5 x5)]
      go_wp2_with fail
      go_ret
      exact ⟨rfl, b1⟩

set_option maxRecDepth 100000 in
set_option maxHeartbeats 2000000 in
theorem refMay_law (w : World) (t : Tok) : Calls Try.prog 11 #[tokV t] w fun e w' => e = .returned (.bool (mayB t)) ∧ Below w.heap.size w w' := by
  obtain ⟨l, d, b⟩ := t
  simp only [tokV]
  go_enter Try.func11, Try.ntmps11
  have b1 : Below w.heap.size w (w.alloc (.cells #[.int .i64 l, .int .i64 d, .int .u8 (b.toNat : Int)] 31)) := (Below.refl _ w).alloc (Nat.le_refl _) _
  by_cases h : l = 0
  · subst h
    rw [show mayB ⟨0, d, b⟩ = decide (d = 0) from rfl]
    by_cases hd : d = 0
    · subst hd
      go_wp2_with fail
      go_ret
      exact ⟨rfl, b1⟩
    · rw [deF (p := d = 0) hd]
      by_cases h5 : b = 0
      · subst h5
        go_wp2_with fail
        go_ret
        exact ⟨rfl, b1⟩
      · have h6 : ¬ ((b.toNat : Int) = 0) := fun e => h5 (UInt8.toNat_inj.1 (by simpa using e))
        go_wp2_with fail
        go_ret
        exact ⟨rfl, b1⟩
  · rw [show mayB ⟨l, d, b⟩ = decide (3 ≤ l ∧ l ≤ 258 ∧ 1 ≤ d ∧ d ≤ 32768 ∧ b = 0) from if_neg h]
    by_cases h5 : b = 0
    · subst h5
      by_cases h1 : 3 ≤ l
      · by_cases h2 : l ≤ 258
        · by_cases h3 : 1 ≤ d
          · by_cases h4 : d ≤ 32768
            · rw [deT (p := 3 ≤ l ∧ l ≤ 258 ∧ 1 ≤ d ∧ d ≤ 32768 ∧ (0 : UInt8) = 0) ⟨h1, h2, h3, h4, rfl⟩]
              go_wp2_with fail
              go_ret
              exact ⟨rfl, b1⟩
            · skip
              rw [deF (p := 3 ≤ l ∧ l ≤ 258 ∧ 1 ≤ d ∧ d ≤ 32768 ∧ _) (fun ⟨x1, x2, x3, x4, x5⟩ => by first | exact h1 x1 | exact h2 x2 | exact h3 x3 | exact h4 x4 | exact h5 x5)]
              go_wp2_with fail
              go_ret
              exact ⟨rfl, b1⟩
          · skip
            rw [deF (p := 3 ≤ l ∧ l ≤ 258 ∧ 1 ≤ d ∧ d ≤ 32768 ∧ _) (fun ⟨x1, x2, x3, x4, x5⟩ => by first | exact h1 x1 | exact h2 x2 | exact h3 x3 | exact h4 x4 | exact h5 x5)]
            go_wp2_with fail
            go_ret
            exact ⟨rfl, b1⟩
        · skip
          rw [deF (p := 3 ≤ l ∧ l ≤ 258 ∧ 1 ≤ d ∧ d ≤ 32768 ∧ _) (fun ⟨x1, x2, x3, x4, x5⟩ => by first | exact h1 x1 | exact h2 x2 | exact h3 x3 | exact h4 x4 | exact h5 x5)]
          go_wp2_with fail
          go_ret
          exact ⟨rfl, b1⟩
      · skip
        rw [deF (p := 3 ≤ l ∧ l ≤ 258 ∧ 1 ≤ d ∧ d ≤ 32768 ∧ _) (fun ⟨x1, x2, x3, x4, x5⟩ => by first | exact h1 x1 | exact h2 x2 | exact h3 x3 | exact h4 x4 | exact h5 x5)]
        go_wp2_with fail
        go_ret
        exact ⟨rfl, b1⟩
    · have h6 : ¬ ((b.toNat : Int) = 0) := fun e => h5 (UInt8.toNat_inj.1 (by simpa using e))
      rw [deF (p := 3 ≤ l ∧ l ≤ 258 ∧ 1 ≤ d ∧ d ≤ 32768 ∧ _) (fun ⟨x1, x2, x3, x4, x5⟩ => by first | exact h1 x1 | exact h2 x2 | exact h3 x3 | exact h4 x4 | exact h5 x5)]
      go_wp2_with fail
      go_ret
      exact ⟨rfl, b1⟩

theorem expand1_law (w : World) (t : Tok) : Calls Try.prog 17 #[tokV t] w fun e w' => e = .returned (.bool (!mayB t)) ∧ Below w.heap.size w w' := by
  obtain ⟨l, d, b⟩ := t
  simp only [tokV]
  go_enter Try.func17, Try.ntmps17
  have b1 : Below w.heap.size w (w.alloc (.cells #[.int .i64 l, .int .i64 d, .int .u8 (b.toNat : Int)] 31)) := (Below.refl _ w).alloc (Nat.le_refl _) _
  go_wp2_with fail
  refine (may_law _ ⟨l, d, b⟩).mono ?_
  rintro e w2 ⟨rfl, b2⟩
  obtain ⟨m, hm⟩ : ∃ m, mayB ⟨l, d, b⟩ = m := ⟨_, rfl⟩
  have HM := Lib.hid hm
  rw [hm]
  clear hm
  go_wp2_with fail
  go_ret
  exact ⟨by rw [HM.out]; rfl, b1.trans (b2.mono b1.size)⟩

set_option maxRecDepth 100000 in
set_option maxHeartbeats 2000000 in
theorem index_law (w : World) (ad : Option Addr) (n cap : Nat) (ts : List Tok) (hx : Rd w 3 ad n cap (T3 ts)) (hn : n ≤ 100000) :
    Calls Try.prog 27 #[.slice ad n cap, .func (.func 17) #[] #[]] w fun e w' => (∃ r : Int, e = .returned (.int .i64 r) ∧ decide (0 ≤ r) = ts.any (fun t => !mayB t)) ∧ Below w.heap.size w w' := by
  have hl : ts.length = n := by have := hx.len; rw [T3_len] at this; omega
  have HL := Lib.hid hl; clear hl
  go_enter Try.func27, Try.ntmps27
  go_wp2_with fail
  go_loopg [8] n (fun k i wr => ∃ j : Nat, j ≤ n ∧ k = n - j ∧ i = .int .i64 j ∧ Below w.heap.size w wr ∧ Hid (∀ t ∈ ts.take j, mayB t = true))
  case atStart => exact ⟨0, Nat.zero_le _, by simp, rfl, Below.refl _ _, Lib.hid (fun t ht => by simp at ht)⟩
  case round =>
    obtain ⟨j, hj, rfl, rfl, hb, hs⟩ := hrel
    rename World => wr
    by_cases hlt : j < n
    · obtain ⟨t, ht, nx, c0, c1, c2⟩ := (hx.below hb).tok hlt
      obtain ⟨l, d, b⟩ := t
      simp only at c0 c1 c2
      have hem := expand1_law wr ⟨l, d, b⟩
      simp only [tokV] at hem
      obtain ⟨m, hm⟩ : ∃ m, mayB ⟨l, d, b⟩ = m := ⟨_, rfl⟩
      rw [hm] at hem
      have HM := Lib.hid hm; clear hm
      have HE := Lib.hid hem; clear hem
      have HT := Lib.hid ht; clear ht
      go_wp2_with fail
      refine HE.out.mono ?_
      rintro e w2 ⟨rfl, b2⟩
      have hb2 := hb.trans (b2.mono hb.size)
      cases m with
      | true =>
        go_wp2_with fail
        go_roundg (n - (j + 1))
        case measure => omega
        case rel => exact ⟨j + 1, by omega, rfl, by simp, hb2, Lib.hid (fun u hu => by
          rw [List.take_add_one, HT.out] at hu
          rcases List.mem_append.1 hu with h | h
          · exact hs.out u h
          · simp at h; subst h; exact HM.out)⟩
      | false =>
        go_wp2_with fail
        go_ret
        refine ⟨⟨j, rfl, ?_⟩, hb2⟩
        rw [List.any_eq_true.2 ⟨⟨l, d, b⟩, List.mem_of_getElem? HT.out, by rw [HM.out]; rfl⟩]
        exact decide_eq_true (by omega)
    · obtain rfl : j = n := by omega
      go_wp2_with fail
      go_ret
      refine ⟨⟨-1, rfl, ?_⟩, hb⟩
      have : ts.any (fun t => !mayB t) = false := by
        rw [List.any_eq_false]
        intro t ht
        rw [hs.out t (by rw [List.take_of_length_le (by rw [HL.out]; exact Nat.le_refl _)]; exact ht)]; simp
      rw [this]; rfl
theorem contains_law (w : World) (ad : Option Addr) (n cap : Nat) (ts : List Tok) (hx : Rd w 3 ad n cap (T3 ts)) (hn : n ≤ 100000) :
    Calls Try.prog 16 #[.slice ad n cap, .func (.func 17) #[] #[]] w fun e w' => e = .returned (.bool (ts.any (fun t => !mayB t))) ∧ Below w.heap.size w w' := by
  go_enter Try.func16, Try.ntmps16
  go_wp2_with fail
  refine (index_law w ad n cap ts hx hn).mono ?_
  rintro e w2 ⟨⟨r, rfl, hr⟩, b2⟩
  have HR := Lib.hid hr; clear hr
  go_wp2_with fail
  go_ret
  exact ⟨by rw [← HR.out]; rfl, b2⟩
end Go.Proofs.Ytnlemaaglbbdnaa
