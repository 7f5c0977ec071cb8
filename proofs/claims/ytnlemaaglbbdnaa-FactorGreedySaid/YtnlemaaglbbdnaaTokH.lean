/- token.Expand. -/
import Derived.Test.YtnlemaaglbbdnaaTokG
namespace Go.Proofs.Ytnlemaaglbbdnaa
set_option linter.unusedSimpArgs false
set_option linter.unusedVariables false
open Go.RowKit Go.Shelf
attribute [local go_sem] Oper.semAt_some

theorem elB : ElTy Try.prog 22 5 (.int .u8 0) 1 1 := ⟨Try.underlying22, info_parts (by kernel_rfl), rfl, by decide⟩

def rep1 (d : Nat) (o : List UInt8) : List UInt8 := o ++ [at8 o (o.length - d)]
def repN (d : Nat) : Nat → List UInt8 → List UInt8
  | 0, o => o
  | k + 1, o => rep1 d (repN d k o)
theorem repN_len (d k : Nat) (o : List UInt8) : (repN d k o).length = o.length + k := by
  induction k with
  | zero => rfl
  | succ k ih => simp only [repN, rep1, List.length_append, ih, List.length_singleton]; omega
def expT (o : List UInt8) : List Tok → List UInt8 × Int
  | [] => (o, 0)
  | t :: ts => if t.len = 0 then expT (o ++ [t.byte]) ts else if o.length < t.dist.toNat then ([], 2) else expT (repN t.dist.toNat t.len.toNat o) ts
def expand (ts : List Tok) : List UInt8 × Int := if ts.any (fun t => !mayB t) then ([], 5) else expT [] ts
theorem drop_of {α : Type} {ts : List α} {j : Nat} {t : α} (h : ts[j]? = some t) : ts.drop j = t :: ts.drop (j + 1) := by
  obtain ⟨hj, he⟩ := List.getElem?_eq_some_iff.1 h
  rw [← he]; exact List.drop_eq_getElem_cons hj
theorem own3 {w : World} {g : Nat} {t : TypeId} {a b c : Value} (hg : w.heap[g]? = some (.cells #[a, b, c] t (0, 0))) : (w.cell? ⟨g, 0, none⟩ = some a ∧ w.cell? ⟨g, 1, none⟩ = some b) ∧ w.cell? ⟨g, 2, none⟩ = some c := by
  simp [World.cell?, hg]

theorem may_nat (l d : Int) (b : UInt8) (h : l ≠ 0) (hm : mayB ⟨l, d, b⟩ = true) : ∃ L : Nat, l = L ∧ ∃ D : Nat, d = D ∧ 3 ≤ L ∧ L ≤ 258 ∧ 1 ≤ D ∧ D ≤ 32768 := by
  rw [show mayB ⟨l, d, b⟩ = decide (3 ≤ l ∧ l ≤ 258 ∧ 1 ≤ d ∧ d ≤ 32768 ∧ b = 0) from if_neg h] at hm
  obtain ⟨h1, h2, h3, h4, _⟩ := of_decide_eq_true hm
  exact ⟨l.toNat, by omega, d.toNat, by omega, by omega, by omega, by omega, by omega⟩

theorem B8_snoc (o : List UInt8) (b : UInt8) : B8 o ++ [.int .u8 (b.toNat : Int)] = B8 (o ++ [b]) := by simp [B8]
theorem own_ne {w : World} {e lo : Nat} {ad : Option Addr} {m cap : Nat} {cs : List Value} (h : Own w e 1 lo ad m cap cs) {Z : Nat} {xs : Array Value} {t : TypeId} (hq : w.heap[Z]? = some (.cells xs t (0, 0))) (hne : t ≠ e) : some Z ≠ bOf ad := by
  intro hc
  obtain ⟨_, h⟩ := h.cases
  rcases h with ⟨rfl, _⟩ | ⟨g, cur, rfl, _, hg, _⟩
  · cases hc
  · simp [bOf] at hc; subst hc; rw [hg] at hq; simp at hq; exact hne hq.2.symm

/-- what Expand answers -/
def ExpPost (ts : List Tok) (w : World) (e : Ending) (w' : World) : Prop := ∃ a c, e = .returned (.tuple #[.slice a (expand ts).1.length c, .int .i64 (expand ts).2]) ∧ Own w' 5 1 w.heap.size a (expand ts).1.length c (B8 (expand ts).1) ∧ Below w.heap.size w w'

set_option maxRecDepth 100000 in
set_option maxHeartbeats 4000000 in
theorem expand_law (w : World) (ad : Option Addr) (n cap : Nat) (ts : List Tok) (hx : Rd w 3 ad n cap (T3 ts)) (hn : n ≤ 4000) :
    Calls Try.prog 12 #[.slice ad n cap] w (ExpPost ts w) := by
  have hl : ts.length = n := by have := hx.len; rw [T3_len] at this; omega
  have HL := Lib.hid hl; clear hl
  go_enter Try.func12, Try.ntmps12
  go_wp2_with fail
  refine (contains_law w ad n cap ts hx (by omega)).mono ?_
  rintro e w1 ⟨rfl, b1⟩
  cases hany : ts.any (fun t => !mayB t) with
  | true =>
    have hp : ∀ w', Below w.heap.size w w' → ExpPost ts w (.returned (.tuple #[.slice none 0 0, .int .i64 5])) w' := fun w' hb => by
      unfold ExpPost
      rw [show expand ts = ([], 5) by rw [expand, hany]; rfl]
      exact ⟨none, 0, rfl, Own.nil _ _ _ _, hb⟩
    have HP := Lib.hid hp; clear hp
    go_wp2_with fail
    refine bodyPost_ret (results_tmp2 rfl _ _ _) rfl ?_
    exact HP.out _ b1
  | false =>
    have hp : ∀ w' a c o r, expT [] ts = (o, r) → Own w' 5 1 w.heap.size a o.length c (B8 o) → Below w.heap.size w w' → ExpPost ts w (.returned (.tuple #[.slice a o.length c, .int .i64 r])) w' := fun w' a c o r ho hw hb => by
      unfold ExpPost
      rw [show expand ts = (o, r) by rw [expand, hany]; exact ho]
      exact ⟨a, c, rfl, hw, hb⟩
    have hmay : ∀ t ∈ ts, mayB t = true := fun t ht => by
      have := (List.any_eq_false.1 hany) t ht
      simpa using this
    have HP := Lib.hid hp; clear hp
    have HM := Lib.hid hmay; clear hmay
    clear hany
    go_wp2_with fail
    go_loopg [4, 11] n (fun k s i wr => ∃ (j : Nat) (o : List UInt8) (m : Nat) (a : Option Addr) (c : Nat), j ≤ n ∧ k = n - j ∧ i = .int .i64 j ∧ s = .slice a m c ∧ m ≤ 258 * j ∧ Hid (o.length = m) ∧ Hid (expT [] ts = expT o (ts.drop j)) ∧ Below w.heap.size w wr ∧ Own wr 5 1 w.heap.size a m c (B8 o))
    case atStart => exact ⟨0, [], 0, none, 0, Nat.zero_le _, by simp, rfl, rfl, Nat.zero_le _, Lib.hid rfl, Lib.hid rfl, b1, Own.nil _ _ _ _⟩
    case round =>
      obtain ⟨j, o, m, a, c, hj, rfl, rfl, rfl, hm, ho, he, hb, hw⟩ := hrel
      rename World => wr
      by_cases hlt : j < n
      · obtain ⟨t, ht, nx, c0, c1, c2⟩ := (hx.below hb).tok hlt
        have hmt := HM.out t (List.mem_of_getElem? ht)
        have hst := he.out
        rw [drop_of ht] at hst
        clear he ht
        obtain ⟨l, d, b⟩ := t
        simp only at c0 c1 c2
        have hw2 := hw.alloc (.cells #[.int .i64 l, .int .i64 d, .int .u8 (b.toNat : Int)] 31)
        have hb2 := hb.alloc hb.size (.cells #[.int .i64 l, .int .i64 d, .int .u8 (b.toNat : Int)] 31)
        have hq := World.alloc_heap_new wr (.cells #[.int .i64 l, .int .i64 d, .int .u8 (b.toNat : Int)] 31)
        have hZ : wr.heap.size < (wr.alloc (.cells #[.int .i64 l, .int .i64 d, .int .u8 (b.toNat : Int)] 31)).heap.size := by simp
        have hZ0 := hb.size
        go_upto_region 7 with fail
        clear c0 c1 c2 hw hb nx
        generalize (wr.alloc (.cells #[.int .i64 l, .int .i64 d, .int .u8 (b.toNat : Int)] 31)) = w5 at *
        generalize wr.heap.size = Z at *
        obtain ⟨⟨c0, c1⟩, c2⟩ := own3 hq
        by_cases hl0 : l = 0
        · subst hl0
          rw [expT, if_pos rfl] at hst
          have HST := Lib.hid hst; clear hst hmt
          go_wp2_with (refine wpList_push rfl _ _ _ rfl elB rfl rfl hw2 (ys := [.int .u8 (b.toNat : Int)]) rfl (by simp [Value.oneCell']) (by unfold maxLen; omega) (by omega) hb2.size ?_; intro a4 c4 w4 o4 g4 n4)
          go_roundg (n - (j + 1))
          case measure => omega
          case rel => exact ⟨j + 1, o ++ [b], m + 1, a4, c4, by omega, rfl, by simp, rfl, by omega, Lib.hid (by simp [ho.out]), HST, Own.grown hb2 hw2 g4 hb2.size (Nat.le_refl _), by rw [← B8_snoc]; exact o4⟩
        · rw [expT, if_neg hl0] at hst
          obtain ⟨L, rfl, D, rfl, hL1, hL2, hD1, hD2⟩ := may_nat l d b hl0 hmt
          simp only [Int.toNat_natCast] at hst
          clear hmt hl0
          by_cases hDm : D ≤ m
          · rw [if_neg (by rw [ho.out]; omega)] at hst
            have HST := Lib.hid hst; clear hst
            have hz1 : ((L : Int) == 0) = false := beq_false_of_ne (by omega)
            have hz2 : decide (m < D) = false := deF (by omega)
            go_wp2_with fail
            go_loopg [4, 30] L (fun k s i wq => ∃ (p : Nat) (a' : Option Addr) (c' : Nat), p ≤ L ∧ k = L - p ∧ i = .int .i64 p ∧ s = .slice a' (m + p) c' ∧ Below w.heap.size w wq ∧ Own wq 5 1 w.heap.size a' (m + p) c' (B8 (repN D p o)) ∧ wq.heap[Z]? = some (.cells #[.int .i64 (L : Int), .int .i64 (D : Int), .int .u8 (b.toNat : Int)] 31 (0, 0)))
            case atStart => exact ⟨0, a, c, Nat.zero_le _, by simp, rfl, rfl, hb2, hw2, hq⟩
            case round =>
              obtain ⟨p, a', c', hp, rfl, rfl, rfl, hb3, hw3, hq3⟩ := hrel
              rename World => wq
              obtain ⟨⟨e0, e1⟩, e2⟩ := own3 hq3
              by_cases hpl : p < L
              · obtain ⟨ne, ce⟩ := hw3.rd.get8 (k := m + p - D) (by omega)
                have hrp : repN D (p + 1) o = repN D p o ++ [at8 (repN D p o) (m + p - D)] := by rw [repN, rep1, repN_len, ho.out]
                have hix : ((m + p : Nat) : Int) - (D : Int) = ((m + p - D : Nat) : Int) := by omega
                have HIX := Lib.hid hix
                generalize at8 (repN D p o) (m + p - D) = v at *
                have HRP := Lib.hid hrp; clear hrp
                have hne := own_ne hw3 hq3 (by decide)
                have hZq : Z < wq.heap.size := (Array.getElem?_eq_some_iff.1 hq3).1
                go_wp2_with (refine wpList_push rfl _ _ _ rfl elB rfl rfl hw3 (ys := [.int .u8 (v.toNat : Int)]) rfl (by simp [Value.oneCell']) (by unfold maxLen; omega) (by omega) hb3.size ?_; intro a4 c4 w4 o4 g4 n4)
                go_roundg (L - (p + 1))
                case measure => omega
                case rel => exact ⟨p + 1, a4, c4, hpl, rfl, by simp, rfl, Own.grown hb3 hw3 g4 hb3.size (Nat.le_refl _), by rw [HRP.out, ← B8_snoc]; exact o4, (g4.block Z hZq hne).trans hq3⟩
              · obtain rfl : p = L := by omega
                go_wp2_with fail
                go_roundg (n - (j + 1))
                case measure => omega
                case rel => exact ⟨j + 1, repN D p o, m + p, a', c', by omega, rfl, by simp, rfl, by omega, Lib.hid (by rw [repN_len, ho.out]), HST, hb3, hw3⟩
          · rw [if_pos (by rw [ho.out]; omega)] at hst
            have HST := Lib.hid hst; clear hst
            have hp := HP.out w5 none 0 [] 2 HST.out (Own.nil _ _ _ _) hb2
            have HPP := Lib.hid hp; clear hp
            go_wp2_with fail
            refine bodyPost_ret (results_tmp2 rfl _ _ _) rfl ?_
            exact HPP.out
      · obtain rfl : j = n := by omega
        have hst := he.out
        rw [show ts.drop j = [] by rw [List.drop_eq_nil_iff, HL.out]; exact Nat.le_refl _, expT] at hst
        have HST := Lib.hid hst; clear hst
        go_wp2_with fail
        refine bodyPost_ret (results_tmp2 rfl _ _ _) rfl ?_
        obtain rfl := ho.out
        exact HP.out _ _ _ _ _ HST.out hw hb
end Go.Proofs.Ytnlemaaglbbdnaa
