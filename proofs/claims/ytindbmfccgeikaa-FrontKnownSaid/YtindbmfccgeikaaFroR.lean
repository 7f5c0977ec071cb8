/- The examples of FrontKnown: plain. -/
import Derived.Test.YtindbmfccgeikaaFroN
import Derived.Test.YtindbmfccgeikaaRegD
import Derived.Test.YtindbmfccgeikaaStr2
namespace Go.Proofs.Ytindbmfccgeikaa
set_option linter.unusedSimpArgs false
set_option linter.unusedVariables false
open Go.RowKit

/-- the byte that a falling row has at i -/
def falF (i : Nat) : UInt8 := UInt8.ofNat (255 - i)
def falL (j : Nat) : List UInt8 := (List.range j).map falF
theorem falL_len (j : Nat) : (falL j).length = j := by simp [falL]
theorem falL_step (j : Nat) (h : j < 256) : (falL j ++ List.replicate (256 - j) (0 : UInt8)).set j (falF j) = falL (j + 1) ++ List.replicate (256 - (j + 1)) (0 : UInt8) := by
  rw [show 256 - j = (256 - (j + 1)) + 1 by omega, List.replicate_succ, List.set_append_right _ _ (by simp [falL])]
  simp [falL, List.range_succ]
theorem fal_mem (c : UInt8) : c ∈ falL 256 := by
  simp only [falL, List.mem_map, List.mem_range, falF]
  refine ⟨255 - c.toNat, by omega, ?_⟩
  have := c.toNat_lt
  rw [show 255 - (255 - c.toNat) = c.toNat by omega]; simp
theorem fal_used : usedL (falL 256) = (List.range 256).map UInt8.ofNat := by
  unfold usedL
  rw [List.filter_eq_self]
  intro c _
  rw [List.contains_iff_mem]
  exact fal_mem c
theorem fal_rev : (falL 256).reverse = (List.range 256).map UInt8.ofNat := by decide +kernel
theorem put_last : ∀ (l p : List UInt8), (p ++ l.reverse).Nodup → 1 < (p ++ l).length → putS l (p ++ l.reverse) 0 = List.replicate l.length (p ++ l).length
  | [], p, _, _ => by rw [putS, digL_zero]; rfl
  | c :: t, p, hnd, hl => by
    rw [List.reverse_cons, ← List.append_assoc] at hnd ⊢
    have hlen : (p ++ t.reverse).length + 1 = (p ++ c :: t).length := by simp; omega
    have hc : c ∉ p ++ t.reverse := fun h => by
      rw [List.nodup_append] at hnd
      exact hnd.2.2 c h c (by simp) rfl
    have e1 : pos8 (p ++ t.reverse ++ [c]) c = (p ++ t.reverse).length := by
      unfold pos8; rw [List.idxOf_append, if_neg hc]; simp
    have e2 : mvd (p ++ t.reverse ++ [c]) (p ++ t.reverse).length = (c :: p) ++ t.reverse := by
      unfold mvd at8
      rw [List.take_left, List.drop_of_length_le (by simp; omega), List.append_nil]
      simp [List.getD_eq_getElem?_getD]
    have hnd2 : ((c :: p) ++ t.reverse).Nodup := by
      rw [List.cons_append, List.nodup_cons]
      exact ⟨hc, (List.nodup_append.1 hnd).1⟩
    rw [putS, e1, if_neg (by omega), e2, digL_zero, put_last t (c :: p) hnd2 (by simp at hl ⊢; omega), hlen, List.length_cons, List.replicate_succ, List.nil_append]
    congr 2; simp; omega
theorem fal_nodup : ((List.range 256).map UInt8.ofNat).Nodup := by decide +kernel
theorem fal_put : putL (falL 256) = List.replicate 256 256 ++ [257] := by
  unfold putL
  rw [fal_used, ← fal_rev]
  have h := put_last (falL 256) [] (by rw [List.nil_append, fal_rev]; exact fal_nodup) (by rw [List.nil_append, falL_len]; decide)
  rw [List.nil_append, List.nil_append] at h
  rw [h, falL_len, List.length_reverse, falL_len]
theorem nn_used : usedL [110, 110, 98, 97, 97, 97] = [97, 98, 110] := by decide +kernel
theorem nn_put : putL [110, 110, 98, 97, 97, 97] = [3, 0, 3, 3, 1, 4] := by
  unfold putL
  rw [nn_used]
  have e1 : pos8 [97, 98, 110] 110 = 2 := by decide
  have e2 : mvd [97, 98, 110] 2 = [110, 97, 98] := by decide
  have e3 : pos8 [110, 97, 98] 110 = 0 := by decide
  have e4 : mvd [110, 97, 98] 0 = [110, 97, 98] := by decide
  have e5 : pos8 [110, 97, 98] 98 = 2 := by decide
  have e6 : mvd [110, 97, 98] 2 = [98, 110, 97] := by decide
  have e7 : pos8 [98, 110, 97] 97 = 2 := by decide
  have e8 : mvd [98, 110, 97] 2 = [97, 98, 110] := by decide
  have e9 : pos8 [97, 98, 110] 97 = 0 := by decide
  have e10 : mvd [97, 98, 110] 0 = [97, 98, 110] := by decide
  have d1 : digL 1 = [0] := by rw [digL_pos 1 (by decide)]; simp [digL_zero]
  have d2 : digL 2 = [1] := dig2
  simp [putS, e1, e2, e3, e4, e5, e6, e7, e8, e9, e10, d1, d2, digL_zero]
/-- zeros without end -/
theorem zeros_none (m most : Nat) (hm : 1 ≤ m) : ∀ (k wo : Nat) (ys out : List UInt8), most < wo * 2 ^ k → getS m most (List.replicate (k + 1) 0 ++ [(m : Int) + 1]) ys out wo = none
  | k, wo, ys, out, h => by
    rw [List.replicate_succ, List.cons_append, getS]
    rw [if_neg (by rintro (h | h | h); omega; omega; (cases k with | zero => (apply h; simp; omega) | succ k => (apply h; simp [List.replicate_succ]; omega))), if_neg (by decide), if_pos rfl]
    by_cases hov : most < out.length + wo
    · rw [if_pos hov]
    · rw [if_neg hov]
      cases k with
      | zero => simp at h; omega
      | succ k => exact zeros_none m most hm k (2 * wo) ys _ (by rw [Nat.pow_succ] at h; rw [Nat.mul_comm 2 wo, Nat.mul_assoc, Nat.mul_comm 2]; exact h)
theorem long_k (k : Nat) (h : 900000 < 1 * 2 ^ k) : getR [97] (List.replicate (k + 1) 0 ++ [2]) 900000 = .error 2 := by
  unfold getR
  rw [if_neg (by decide), if_neg (by simp)]
  have := zeros_none 1 900000 (by decide) k 1 [97] [] h
  rw [show (([97] : List UInt8)).length = 1 from rfl, show (900000 : Int).toNat = 900000 from rfl]
  rw [show ([2] : List Int) = [((1 : Nat) : Int) + 1] from rfl, this]
theorem long_R : getR [97] (List.replicate 600 0 ++ [2]) 900000 = .error 2 := long_k 599 (by decide +kernel)
theorem big_R : getR [97] [2] 900001 = .error 5 := by
  unfold getR
  rw [if_pos (by decide)]

/-- a row of the table -/
structure Rw where
  used : List UInt8
  ad : Option Addr
  ss : List Int
  most : Int
  out : List UInt8
  e : Int
def Rw.cells (r : Rw) : List Value := [.string (bstr r.used), .slice r.ad r.ss.length r.ss.length, .int .i64 r.most, .string (bstr r.out), .int .i64 r.e]
def rws (A : Nat → Option Addr) : List Rw := [⟨[97], A 0, [0, 2], 0, [], 2⟩, ⟨[97, 98], A 1, [3], 9, [], 0⟩, ⟨[98, 97], A 2, [3], 9, [], 5⟩, ⟨[97, 97], A 3, [3], 9, [], 5⟩, ⟨[], A 4, [1], 9, [], 5⟩, ⟨[97, 98], A 5, [3], -1, [], 5⟩, ⟨[97, 98], A 6, [0], 9, [], 2⟩, ⟨[97, 98], A 7, [4], 9, [], 2⟩, ⟨[97, 98], A 8, [-1, 3], 9, [], 2⟩, ⟨[97, 98], A 9, [3, 3], 9, [], 2⟩, ⟨[97, 98], A 10, [3, 0], 9, [], 2⟩, ⟨[97, 98], none, [], 9, [], 2⟩, ⟨[97, 98], A 11, [2, 2, 3], 2, [98, 97], 0⟩, ⟨[97, 98], A 12, [2, 2, 3], 1, [], 2⟩, ⟨[97, 98], A 13, [1, 0, 3], 9, [97, 97, 97, 97], 0⟩]
def Rw.good (r : Rw) : Prop := (getR r.used r.ss r.most = .error r.e ∧ r.out = [] ∨ getR r.used r.ss r.most = .ok r.out ∧ r.e = 0) ∧ r.used.length ≤ 2 ∧ r.ss.length ≤ 3 ∧ -1 ≤ r.most ∧ r.most ≤ 9
theorem rws_good (A : Nat → Option Addr) : ∀ r ∈ rws A, r.good := by
  intro r hr
  simp only [rws, List.mem_cons, List.not_mem_nil, or_false] at hr
  rcases hr with rfl | rfl | rfl | rfl | rfl | rfl | rfl | rfl | rfl | rfl | rfl | rfl | rfl | rfl | rfl
  all_goals refine ⟨?_, by dsimp only; decide, by dsimp only; decide, by dsimp only; decide, by dsimp only; decide⟩
  all_goals first | exact .inl ⟨rfl, rfl⟩ | exact .inr ⟨rfl, rfl⟩
theorem flat5 {α : Type} (f : α → List Value) (hf : ∀ r, (f r).length = 5) : ∀ (L : List α) (i k : Nat) (r : α), k < 5 → L[i]? = some r → (L.flatMap f)[i * 5 + k]? = (f r)[k]?
  | [], i, k, r, _, h => by simp at h
  | x :: L, 0, k, r, hk, h => by
    simp at h; subst h
    rw [List.flatMap_cons, List.getElem?_append_left (by rw [hf]; omega)]; simp
  | x :: L, i + 1, k, r, hk, h => by
    rw [List.flatMap_cons, List.getElem?_append_right (by rw [hf]; omega), hf, ← flat5 f hf L i k r hk (by simpa using h)]
    congr 1; omega
/-- rows laid one behind another -/
def allocs (t : Nat) : World → List (List Int) → World
  | w, [] => w
  | w, s :: L => allocs t (w.alloc (.cells (I64 s).toArray t)) L
theorem allocs_spec (t : Nat) : ∀ (L : List (List Int)) (w : World), (allocs t w L).heap.size = w.heap.size + L.length ∧ Below w.heap.size w (allocs t w L) ∧ ∀ i s, L[i]? = some s → s.length ≤ maxLen → Rd (allocs t w L) 1 (some ⟨w.heap.size + i, 0, none⟩) s.length s.length (I64 s)
  | [], w => ⟨rfl, Below.refl _ _, fun i s h => by simp at h⟩
  | s :: L, w => by
    obtain ⟨h1, h2, h3⟩ := allocs_spec t L (w.alloc (.cells (I64 s).toArray t))
    rw [World.size_alloc] at h1 h2 h3
    refine ⟨by rw [allocs, h1, List.length_cons]; omega, ((Below.refl _ w).alloc (Nat.le_refl _) _).trans (h2.mono (by omega)), fun i u hu hl => ?_⟩
    cases i with
    | zero =>
      simp at hu; subst hu
      exact (Rd.row w t 1 s.length (I64 s) (by rw [I64_len, Nat.mul_one]) hl (I64_one s)).below (by rw [World.size_alloc]; exact h2)
    | succ i =>
      have := h3 i u (by simpa using hu) hl
      rwa [show w.heap.size + 1 + i = w.heap.size + (i + 1) by omega] at this
def syms : List (List Int) := [[0, 2], [3], [3], [3], [1], [3], [0], [4], [-1, 3], [3, 3], [3, 0], [2, 2, 3], [2, 2, 3], [1, 0, 3]]
def tabR (w : World) : List Rw := rws fun i => some ⟨w.heap.size + i, 0, none⟩
def tabW (t e : Nat) (w : World) : World := (allocs t w syms).alloc (.cells ((tabR w).flatMap Rw.cells).toArray e)
theorem cells_one (r : Rw) : ∀ u ∈ r.cells, u.oneCell' = true := by
  intro u hu
  simp only [Rw.cells, List.mem_cons, List.not_mem_nil, or_false] at hu
  rcases hu with rfl | rfl | rfl | rfl | rfl <;> rfl
theorem tab_spec (t e : Nat) (w : World) : Rd (tabW t e w) 5 (some ⟨w.heap.size + 14, 0, none⟩) 15 15 ((tabR w).flatMap Rw.cells) ∧ (∀ r ∈ tabR w, Rd (tabW t e w) 1 r.ad r.ss.length r.ss.length (I64 r.ss)) ∧ Below w.heap.size w (tabW t e w) := by
  obtain ⟨h1, h2, h3⟩ := allocs_spec t syms w
  have hs : (allocs t w syms).heap.size = w.heap.size + 14 := h1
  refine ⟨?_, ?_, ?_⟩
  · rw [← hs]
    refine Rd.row _ _ 5 15 _ rfl (by unfold maxLen; omega) fun u hu => ?_
    rw [List.mem_flatMap] at hu
    obtain ⟨r, _, hr⟩ := hu
    exact cells_one r u hr
  · intro r hr
    have h4 : ∀ i s, syms[i]? = some s → s.length ≤ maxLen → Rd (tabW t e w) 1 (some ⟨w.heap.size + i, 0, none⟩) s.length s.length (I64 s) := fun i s hi hl => (h3 i s hi hl).alloc _
    simp only [tabR, rws, List.mem_cons, List.not_mem_nil, or_false] at hr
    have hm : (3 : Nat) ≤ maxLen := by unfold maxLen; omega
    rcases hr with rfl | rfl | rfl | rfl | rfl | rfl | rfl | rfl | rfl | rfl | rfl | rfl | rfl | rfl | rfl
    · exact h4 0 [0, 2] rfl (Nat.le_trans (by decide) hm)
    · exact h4 1 [3] rfl (Nat.le_trans (by decide) hm)
    · exact h4 2 [3] rfl (Nat.le_trans (by decide) hm)
    · exact h4 3 [3] rfl (Nat.le_trans (by decide) hm)
    · exact h4 4 [1] rfl (Nat.le_trans (by decide) hm)
    · exact h4 5 [3] rfl (Nat.le_trans (by decide) hm)
    · exact h4 6 [0] rfl (Nat.le_trans (by decide) hm)
    · exact h4 7 [4] rfl (Nat.le_trans (by decide) hm)
    · exact h4 8 [-1, 3] rfl (Nat.le_trans (by decide) hm)
    · exact h4 9 [3, 3] rfl (Nat.le_trans (by decide) hm)
    · exact h4 10 [3, 0] rfl (Nat.le_trans (by decide) hm)
    · exact (Own.nil _ 0 1 0).rd
    · exact h4 11 [2, 2, 3] rfl (Nat.le_trans (by decide) hm)
    · exact h4 12 [2, 2, 3] rfl (Nat.le_trans (by decide) hm)
    · exact h4 13 [1, 0, 3] rfl (Nat.le_trans (by decide) hm)
  · exact h2.alloc (by omega) _
/-- a row of the table, as it is read -/
theorem tab_get {W : World} {ad : Option Addr} {w : World} (h : Rd W 5 ad 15 15 ((tabR w).flatMap Rw.cells)) {i : Nat} (hi : i < 15) :
    ∃ r ∈ tabR w, W.cell? (sAt ad (i * 5)) = some (.string (bstr r.used)) ∧ W.cell? ⟨(sAt ad (i * 5)).block, (sAt ad (i * 5)).off + 1, none⟩ = some (.slice r.ad r.ss.length r.ss.length) ∧ W.cell? ⟨(sAt ad (i * 5)).block, (sAt ad (i * 5)).off + 2, none⟩ = some (.int .i64 r.most) ∧ W.cell? ⟨(sAt ad (i * 5)).block, (sAt ad (i * 5)).off + 3, none⟩ = some (.string (bstr r.out)) ∧ W.cell? ⟨(sAt ad (i * 5)).block, (sAt ad (i * 5)).off + 4, none⟩ = some (.int .i64 r.e) := by
  have hl : (tabR w).length = 15 := rfl
  obtain ⟨r, hr⟩ : ∃ r, (tabR w)[i]? = some r := ⟨_, List.getElem?_eq_getElem (by omega)⟩
  have g := fun k hk => flat5 Rw.cells (fun _ => rfl) (tabR w) i k r hk hr
  have sp : ∀ k, k ≠ 0 → sAt ad (i * 5 + k) = ⟨(sAt ad (i * 5)).block, (sAt ad (i * 5)).off + k, none⟩ := fun k hk => by
    unfold sAt Addr.add
    split
    · omega
    · split <;> simp_all <;> omega
  refine ⟨r, List.mem_of_getElem? hr, h.cellAt (g 0 (by decide)), ?_, ?_, ?_, ?_⟩
  · rw [← sp 1 (by decide)]; exact h.cellAt (g 1 (by decide))
  · rw [← sp 2 (by decide)]; exact h.cellAt (g 2 (by decide))
  · rw [← sp 3 (by decide)]; exact h.cellAt (g 3 (by decide))
  · rw [← sp 4 (by decide)]; exact h.cellAt (g 4 (by decide))
theorem use_world {F : Fence} {n : Nat} {P : Program} {c : Code} {Q : Exit → Act → World → Prop} {a : Act} {W W' : World} (h : W = W') (hW : c.wpIn F n P Q a W') : c.wpIn F n P Q a W := h ▸ hW
end Go.Proofs.Ytindbmfccgeikaa
