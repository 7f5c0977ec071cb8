/- slices.Compact of the sorted bytes: the bytes that are used, rising. -/
import Derived.Test.YtindbmfccgeikaaFroA
import Derived.Test.YtindbmfccgeikaaFroS
import Derived.Test.YtindbmfccgeikaaStr
namespace Go.Proofs.Ytindbmfccgeikaa
set_option linter.unusedSimpArgs false
set_option linter.unusedVariables false
open Go.RowKit Go.Sort Go.Lib

/-- the bytes that xs has, rising -/
def usedL (xs : List UInt8) : List UInt8 := ((List.range 256).map UInt8.ofNat).filter fun c => xs.contains c
theorem usedL_mem (xs : List UInt8) (c : UInt8) : c ∈ usedL xs ↔ c ∈ xs := by
  simp only [usedL, List.mem_filter, List.mem_map, List.mem_range, List.contains_iff_mem]
  refine ⟨fun h => h.2, fun h => ⟨⟨c.toNat, c.toNat_lt, by simp⟩, h⟩⟩
theorem usedL_rise (xs : List UInt8) : (usedL xs).Pairwise fun a b => a.toNat < b.toNat := by
  refine List.Pairwise.filter _ ?_
  rw [List.pairwise_map]
  refine (List.pairwise_lt_range (n := 256)).imp_of_mem ?_
  intro a b ha hb h
  rw [List.mem_range] at ha hb
  rw [UInt8.toNat_ofNat', UInt8.toNat_ofNat', Nat.mod_eq_of_lt (by omega), Nat.mod_eq_of_lt (by omega)]
  exact h
theorem rise_ext : ∀ {a b : List Int}, a.Pairwise (· < ·) → b.Pairwise (· < ·) → (∀ x, x ∈ a ↔ x ∈ b) → a = b
  | [], [], _, _, _ => rfl
  | [], y :: b, _, _, h => by have := (h y).2 (List.mem_cons_self ..); cases this
  | x :: a, [], _, _, h => by have := (h x).1 (List.mem_cons_self ..); cases this
  | x :: a, y :: b, ha, hb, h => by
    rw [List.pairwise_cons] at ha hb
    have e : x = y := by
      have h1 := (h x).1 (List.mem_cons_self ..)
      have h2 := (h y).2 (List.mem_cons_self ..)
      rw [List.mem_cons] at h1 h2
      rcases h1 with h1 | h1
      · exact h1
      rcases h2 with h2 | h2
      · exact h2.symm
      have := ha.1 y h2
      have := hb.1 x h1
      omega
    subst e
    rw [rise_ext ha.2 hb.2 fun z => ?_]
    have hz := h z
    rw [List.mem_cons, List.mem_cons] at hz
    constructor
    · intro hm
      rcases hz.1 (.inr hm) with e | e
      · have := ha.1 z hm; omega
      · exact e
    · intro hm
      rcases hz.2 (.inr hm) with e | e
      · have := hb.1 z hm; omega
      · exact e
theorem get8i (ys : List UInt8) (j : Nat) (h : j < ys.length) : (i8 ys).toArray[j]! = ((at8 ys j).toNat : Int) := by
  simp [i8, at8, h, List.getD_eq_getElem?_getD]
theorem compact_used (xs : List UInt8) : compactUpTo (i8 (srtL xs)).toArray (srtL xs).length = i8 (usedL xs) := by
  have hs : (srtL xs).Pairwise fun a b => a ≤ b := by
    have := List.pairwise_mergeSort (le := fun x y : UInt8 => decide (x ≤ y)) (fun a b c h1 h2 => by simp at *; exact UInt8.le_trans h1 h2) (fun a b => by simp; exact UInt8.le_total a b) xs
    exact this.imp fun h => by simpa using h
  have hle : ∀ i j, i ≤ j → j < (srtL xs).length → (at8 (srtL xs) i).toNat ≤ (at8 (srtL xs) j).toNat := fun i j hij hj => by
    rcases Nat.lt_or_ge i j with h | h
    · have := (List.pairwise_iff_getElem.1 hs) i j (by omega) hj h
      simp only [at8, List.getD_eq_getElem?_getD, List.getElem?_eq_getElem hj, List.getElem?_eq_getElem (show i < (srtL xs).length by omega), Option.getD_some]
      exact this
    · rw [show i = j by omega]; exact Nat.le_refl _
  refine rise_ext ?_ ?_ fun z => ?_
  · unfold compactUpTo
    rw [List.pairwise_map]
    refine ((List.pairwise_lt_range (n := (srtL xs).length)).filter _).imp_of_mem ?_
    intro i j hi hj h
    rw [List.mem_filter, List.mem_range] at hi hj
    have hk := hj.2
    simp only [keeps, decide_eq_true_eq] at hk
    rw [get8i _ _ hi.1, get8i _ _ hj.1]
    rw [get8i _ _ hj.1, get8i _ _ (by omega)] at hk
    have h1 := hle i (j - 1) (by omega) (by omega)
    have h2 := hle (j - 1) j (by omega) hj.1
    omega
  · unfold i8
    rw [List.pairwise_map]
    exact (usedL_rise xs).imp fun h => by omega
  · unfold compactUpTo i8
    simp only [List.mem_map, List.mem_filter, List.mem_range]
    constructor
    · rintro ⟨j, ⟨hj, _⟩, rfl⟩
      refine ⟨at8 (srtL xs) j, (usedL_mem _ _).2 ?_, (get8i _ _ hj).symm⟩
      rw [← List.mem_mergeSort (le := fun x y : UInt8 => decide (x ≤ y))]
      show at8 (srtL xs) j ∈ srtL xs
      simp only [at8, List.getD_eq_getElem?_getD, List.getElem?_eq_getElem hj, Option.getD_some]
      exact List.getElem_mem hj
    · rintro ⟨c, hc, rfl⟩
      have hm : c ∈ srtL xs := (List.mem_mergeSort (le := fun x y : UInt8 => decide (x ≤ y))).2 ((usedL_mem _ _).1 hc)
      obtain ⟨j0, hj0, hjc⟩ := List.getElem_of_mem hm
      have hex : ∃ j, j < (srtL xs).length ∧ at8 (srtL xs) j = c := ⟨j0, hj0, by simp [at8, hj0, hjc, List.getD_eq_getElem?_getD]⟩
      -- the first place at which it stands
      have hfirst : ∀ m, (∀ j, j < m → ¬ (j < (srtL xs).length ∧ at8 (srtL xs) j = c)) ∨ ∃ j, (j < (srtL xs).length ∧ at8 (srtL xs) j = c) ∧ ∀ i, i < j → ¬ (i < (srtL xs).length ∧ at8 (srtL xs) i = c) := by
        intro m
        induction m with
        | zero => exact .inl fun j hj => absurd hj (Nat.not_lt_zero _)
        | succ m ih =>
          rcases ih with ih | ih
          · by_cases h : m < (srtL xs).length ∧ at8 (srtL xs) m = c
            · exact .inr ⟨m, h, ih⟩
            · exact .inl fun j hj => by
                rcases Nat.lt_or_ge j m with h2 | h2
                · exact ih j h2
                · rw [show j = m by omega]; exact h
          · exact .inr ih
      obtain ⟨j1, h1⟩ := hex
      rcases hfirst (j1 + 1) with h | ⟨j, ⟨hj, hjc⟩, hmin⟩
      · exact absurd h1 (h j1 (by omega))
      · refine ⟨j, ⟨hj, ?_⟩, (get8i _ _ hj).trans (by rw [hjc])⟩
        simp only [keeps, decide_eq_true_eq]
        rcases Nat.eq_zero_or_pos j with e | e
        · exact .inl e
        · refine .inr fun he => ?_
          have he2 : (srtL xs).map (fun b => ((b.toNat : Nat) : Int)) = i8 (srtL xs) := rfl
          rw [he2, get8i _ _ hj, get8i _ _ (by omega)] at he
          exact hmin (j - 1) (by omega) ⟨by omega, by rw [← hjc]; exact UInt8.toNat_inj.1 (by omega)⟩

theorem own_holds {w : World} {lo g n cap : Nat} {xs : List UInt8} (ho : Own w 5 1 lo (some ⟨g, 0, none⟩) n cap (B8 xs)) : Holds encB w g 0 (i8 xs).toArray := by
  intro j hj
  have hj2 : j < xs.length := by simpa [i8] using hj
  obtain ⟨r1, r2⟩ := ho.read (B8_get xs j hj2)
  rw [Nat.zero_add]
  refine ⟨?_, r2⟩
  rw [r1, get8i _ _ hj2]
theorem own_put {w : World} {lo g n cap q : Nat} {xs ys : List UInt8} (ho : Own w 5 1 lo (some ⟨g, 0, none⟩) n cap (B8 xs)) (hl : ys.length = n) :
    Own (putRow encB (Sort.ahead w q) g 0 (i8 ys).toArray) 5 1 lo (some ⟨g, 0, none⟩) n cap (B8 ys) ∧ w.grownBy (putRow encB (Sort.ahead w q) g 0 (i8 ys).toArray) (some g) := by
  obtain ⟨_, hc⟩ := ho.cases
  rcases hc with ⟨h0, _⟩ | ⟨g', cur, h1, hb, hg, hnc, hcm, hcs, ht⟩
  · cases h0
  cases h1
  refine ⟨⟨⟨by rw [B8_len]; omega, .inr ⟨g, cap, putCells encB 0 (i8 ys).toArray cur, rfl, hb, ?_, hnc, hcm, ?_, ?_⟩⟩, B8_one _⟩, ⟨rfl, rfl, rfl, by simp, fun k hk hne => ?_⟩⟩
  · simp [putRow, mapBlock, Sort.ahead, Array.getElem?_modify, hg, onCells]
  · simp [putCells, hcs]
  · have := putCells_take cur (i8 ys) (by simp [i8]; omega)
    rw [encB_i8] at this
    rw [← this]
    simp [i8, hl]
  · have : g ≠ k := fun e => hne (by rw [e])
    simp [putRow, mapBlock, Sort.ahead, Array.getElem?_modify, this]
theorem Own.shrink {w : World} {e sz lo : Nat} {ad : Option Addr} {n cap : Nat} {cs : List Value} (h : Own w e sz lo ad n cap cs) {j : Nat} (hj : j ≤ n) : Own w e sz lo ad j cap (cs.take (j * sz)) := by
  obtain ⟨hl, hc⟩ := h.cases
  have hjn : j * sz ≤ n * sz := Nat.mul_le_mul_right _ hj
  have hlen : (cs.take (j * sz)).length = j * sz := by rw [List.length_take]; omega
  refine ⟨⟨hlen, ?_⟩, fun u hu => h.2 u (List.mem_of_mem_take hu)⟩
  rcases hc with ⟨rfl, rfl, rfl⟩ | ⟨g, cur, rfl, hb, hg, hn, hm, hs, ht⟩
  · left; obtain rfl : j = 0 := by omega
    exact ⟨rfl, rfl⟩
  · right; refine ⟨g, cap, cur, rfl, hb, hg, by omega, hm, hs, ?_⟩
    rw [← ht, List.take_take, Nat.min_eq_left hjn]

theorem usedL_nil : usedL [] = [] := by simp [usedL]
set_option maxRecDepth 100000 in
theorem compact_law (w : World) (lo : Nat) (a : Option Addr) (n cap : Nat) (xs : List UInt8) (ho : Own w 5 1 lo a n cap (B8 (srtL xs))) (hn : n ≤ 1000000) :
    Calls Try.prog 15 #[.slice a n cap] w fun e w' => e = .returned (.slice a (usedL xs).length cap) ∧ Own w' 5 1 lo a (usedL xs).length cap (B8 (usedL xs)) ∧ w.grownBy w' (bOf a) := by
  have hl := ho.rd.len8
  have hc0 := ho
  obtain ⟨_, hc⟩ := ho.cases
  rcases hc with ⟨rfl, rfl, rfl⟩ | ⟨g, cur, rfl, hb, hg, hnc, hcm, hcs, ht⟩
  · obtain rfl : xs = [] := List.eq_nil_of_length_eq_zero (by rw [← srtL_len]; exact hl)
    have e : srtL [] = [] := List.eq_nil_of_length_eq_zero (by rw [srtL_len]; rfl)
    rw [usedL_nil]
    rw [e] at hc0
    go_enter Try.func15, Try.ntmps15
    go_wp2_with fail
    go_ret
    exact ⟨rfl, hc0, World.grownBy.refl _ _⟩
  · have hsz : (i8 (srtL xs)).toArray.size = n := by simp [i8, hl]
    have hcu := compact_used xs
    rw [hl] at hcu
    have h := AnyE.slices_Compact layE43 encB (fun _ => rfl) (EqlAt.intD _ _ .u8) (NeqAt.intD _ _ .u8) 0 (fun w => Try.zeroValue5 w) g 0 cap (i8 (srtL xs)).toArray w (own_holds ho) (by omega) (by omega)
    rw [hsz, hcu] at h
    have hul : (usedL xs).length ≤ n := by
      have : (i8 (usedL xs)).length ≤ n := by
        rw [← hcu]
        unfold compactUpTo
        rw [List.length_map]
        exact Nat.le_trans (List.length_filter_le _ _) (by simp)
      simpa [i8] using this
    have hi8 : (i8 (usedL xs)).length = (usedL xs).length := by simp [i8]
    rw [hi8] at h
    refine (show Calls Try.prog 15 _ _ _ from h).mono ?_
    rintro e w' ⟨rfl, q, rfl⟩
    have hz : i8 (usedL xs) ++ List.replicate (n - (usedL xs).length) 0 = i8 (usedL xs ++ List.replicate (n - (usedL xs).length) 0) := by simp [i8]
    rw [hz]
    obtain ⟨o1, g1⟩ := own_put (q := q) (ys := usedL xs ++ List.replicate (n - (usedL xs).length) 0) hc0 (by simp; omega)
    refine ⟨rfl, ?_, g1⟩
    have := o1.shrink hul
    rw [Nat.mul_one, B8_take, List.take_left] at this
    exact this
end Go.Proofs.Ytindbmfccgeikaa
