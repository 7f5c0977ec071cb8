/- The longest repetition by neighbours in the order of the ends: plain law. -/
import Derived.Test.YtnlemaaglbbdnaaLcpC
import Derived.Test.YtnlemaaglbbdnaaNearS
namespace Go.Proofs.Ytnlemaaglbbdnaa
set_option linter.unusedSimpArgs false
set_option linter.unusedVariables false

theorem com_is (b : List UInt8) (i j : Nat) : Com b i j (com b i j) := by
  have key : ∀ m : Nat, (∀ s, s < m → onB b (i + s) (j + s) = true) ∨ ∃ n, Com b i j n := by
    intro m
    induction m with
    | zero => exact .inl fun s hs => by omega
    | succ m ih =>
      rcases ih with ih | ih
      · cases h : onB b (i + m) (j + m) with
        | true =>
          refine .inl fun s hs => ?_
          by_cases e : s = m
          · rw [e]; exact h
          · exact ih s (by omega)
        | false => exact .inr ⟨m, ih, h⟩
      · exact .inr ih
  rcases key (b.length + 1) with h | ⟨n, h⟩
  · have := ((onB_iff _ _ _).1 (h b.length (by omega))).1; omega
  · rw [h.eq]; exact h
theorem com_comm (b : List UInt8) (i j : Nat) : com b i j = com b j i := ((com_is b j i).symm).eq
theorem com_in (b : List UInt8) {i : Nat} (j : Nat) (hi : i ≤ b.length) : i + com b i j ≤ b.length := by
  have h := com_is b i j
  rcases Nat.eq_zero_or_pos (com b i j) with e | e
  · omega
  · have := ((onB_iff _ _ _).1 (h.1 (com b i j - 1) (by omega))).1; omega
theorem com_at {b : List UInt8} {i j s : Nat} (h : s < com b i j) : i + s < b.length ∧ j + s < b.length ∧ at8 b (i + s) = at8 b (j + s) := (onB_iff _ _ _).1 ((com_is b i j).1 s h)

/-- where a place stands in the order -/
def plc (o : List Nat) (i : Nat) : Nat := o.idxOf i
theorem plc_ok {b : List UInt8} {o : List Nat} (ho : Ordered b false o) {i : Nat} (hi : i < b.length) : plc o i < b.length ∧ atN o (plc o i) = i := by
  have hm := (ho.ord.mem i).2 hi
  have hl : o.length = b.length := ho.len
  have h1 : o.idxOf i < o.length := List.idxOf_lt_length_iff.2 hm
  refine ⟨by unfold plc; omega, ?_⟩
  rw [plc, atN_get _ _ h1]
  exact List.getElem_idxOf h1
theorem plc_inv {b : List UInt8} {o pl : List Nat} (ho : Ordered b false o) (hi : Inv (o.map fun c : Nat => (c : Int)) pl) {i : Nat} (h : i < b.length) : atN pl i = plc o i := by
  obtain ⟨h1, _⟩ := inv_nat ho.len ho.good hi
  obtain ⟨a1, a2⟩ := h1 i h
  obtain ⟨b1, b2⟩ := plc_ok ho h
  exact ho.ord.inj a1 b1 (by rw [a2, b2])

def oI (o : List Nat) : List Int := o.map fun c : Nat => (c : Int)
def hI (b : List UInt8) (o : List Nat) : List Int := (hgtL b o).map fun c : Nat => (c : Int)
/-- have two places enough in common? -/
def eno (b : List UInt8) (o : List Nat) (p q : Int) : Bool := decide ((cmmI (hI b o) p q).2 = 0) && decide (3 ≤ (cmmI (hI b o) p q).1)
def hop (b : List UInt8) (o : List Nat) (p : Nat) : Bool := eno b o (atI (refAhead (oI o) o.length) p) p || eno b o p (atI (refBehind (oI o) o.length) p)

theorem hI_len (b : List UInt8) (o : List Nat) : (hI b o).length = b.length := by simp [hI, hgtL_len]
theorem eno_iff {b : List UInt8} {o : List Nat} (ho : Ordered b false o) {p q : Nat} (hpq : p < q) (hq : q < b.length) : eno b o p q = decide (3 ≤ com b (atN o p) (atN o q)) := by
  have hc : cmmI (hI b o) (p : Int) (q : Int) = (((com b (atN o p) (atN o q) : Nat) : Int), 0) := by
    rw [cmmI, hI_len, if_neg (by omega)]
    have := lst_com ho p (q - p - 1) (by omega)
    rw [show p + 1 + (q - p - 1) = q by omega] at this
    rw [Int.toNat_natCast, Int.toNat_natCast]
    exact Prod.ext this rfl
  rw [eno, hc]
  simp
  by_cases h : 3 ≤ com b (atN o p) (atN o q)
  · simp [h]; omega
  · simp [h]; omega

/-- the neighbours to one side -/
def nbL (b : List UInt8) (o : List Nat) (p k : Nat) : Nat × Nat := (atN o (p - 1 - k), com b (atN o (p - 1 - k)) (atN o p))
def nbR (b : List UInt8) (o : List Nat) (p k : Nat) : Nat × Nat := (atN o (p + 1 + k), com b (atN o p) (atN o (p + 1 + k)))
/-- looking at neighbours, m from the k-th on -/
def scan (i walk : Nat) (f : Nat → Nat × Nat) : Nat → Nat → Nat × Nat → Nat × Nat
  | 0, _, s => s
  | m + 1, k, s => if (f k).2 < 3 ∨ (f k).2 ≤ s.1 then s else if (f k).1 < i ∧ i - (f k).1 ≤ 32768 then ((f k).2, i - (f k).1) else if k + 1 = walk then s else scan i walk f m (k + 1) s
def lng (b : List UInt8) (o : List Nat) (walk i : Nat) : Nat × Nat :=
  if hop b o (plc o i) then
    (min (scan i walk (nbR b o (plc o i)) (b.length - 1 - plc o i) 0 (scan i walk (nbL b o (plc o i)) (plc o i) 0 (0, 0))).1 258,
      (scan i walk (nbR b o (plc o i)) (b.length - 1 - plc o i) 0 (scan i walk (nbL b o (plc o i)) (plc o i) 0 (0, 0))).2)
  else (0, 0)

/-- a repetition -/
def Rp (b : List UInt8) (i : Nat) (s : Nat × Nat) : Prop := s.1 = 0 ∨ (3 ≤ s.1 ∧ 1 ≤ s.2 ∧ s.2 ≤ 32768 ∧ s.2 ≤ i ∧ s.1 ≤ com b (i - s.2) i)
theorem scan_rp {b : List UInt8} {i walk : Nat} {f : Nat → Nat × Nat} (hf : ∀ k, (f k).1 < i → (f k).2 ≤ com b (f k).1 i) : ∀ m k s, Rp b i s → Rp b i (scan i walk f m k s)
  | 0, k, s, h => h
  | m + 1, k, s, h => by
    unfold scan
    split
    · exact h
    · rename_i h1
      split
      · rename_i h2
        right
        have := hf k h2.1
        dsimp only
        rw [show i - (i - (f k).1) = (f k).1 by omega]
        omega
      · split
        · exact h
        · exact scan_rp hf m (k + 1) s h
theorem nbL_com {b : List UInt8} {o : List Nat} {p : Nat} (k : Nat) : (nbL b o p k).2 ≤ com b (nbL b o p k).1 (atN o p) := Nat.le_refl _
theorem nbR_com {b : List UInt8} {o : List Nat} {p : Nat} (k : Nat) : (nbR b o p k).2 ≤ com b (nbR b o p k).1 (atN o p) := by
  show com b (atN o p) (atN o (p + 1 + k)) ≤ com b (atN o (p + 1 + k)) (atN o p)
  rw [com_comm]; exact Nat.le_refl _

theorem lng_rp {b : List UInt8} {o : List Nat} (ho : Ordered b false o) (walk : Nat) {i : Nat} (hi : i < b.length) : (lng b o walk i).1 = 0 ∨ (3 ≤ (lng b o walk i).1 ∧ (lng b o walk i).1 ≤ 258 ∧ 1 ≤ (lng b o walk i).2 ∧ (lng b o walk i).2 ≤ 32768 ∧ (lng b o walk i).2 ≤ i ∧ (lng b o walk i).1 ≤ com b (i - (lng b o walk i).2) i) := by
  unfold lng
  split
  · have hp := (plc_ok ho hi).2
    have h1 : Rp b i (scan i walk (nbL b o (plc o i)) (plc o i) 0 (0, 0)) := scan_rp (fun k _ => by have := nbL_com (b := b) (o := o) (p := plc o i) k; rwa [hp] at this) _ _ _ (.inl rfl)
    have h2 : Rp b i (scan i walk (nbR b o (plc o i)) (b.length - 1 - plc o i) 0 (scan i walk (nbL b o (plc o i)) (plc o i) 0 (0, 0))) := scan_rp (fun k _ => by have := nbR_com (b := b) (o := o) (p := plc o i) k; rwa [hp] at this) _ _ _ h1
    generalize scan i walk (nbR b o (plc o i)) (b.length - 1 - plc o i) 0 (scan i walk (nbL b o (plc o i)) (plc o i) 0 (0, 0)) = s at *
    rcases h2 with h2 | h2
    · left; dsimp only; omega
    · right; dsimp only; omega
  · exact .inl rfl

theorem scan_max {i : Nat} {f : Nat → Nat × Nat} (N : Nat) (hmono : ∀ k k', k ≤ k' → k' < N → (f k').2 ≤ (f k).2) : ∀ m k s, k + m = N → s.1 ≤ (scan i 0 f m k s).1 ∧ ∀ k', k ≤ k' → k' < N → (f k').1 < i → i - (f k').1 ≤ 32768 → (f k').2 < 3 ∨ (f k').2 ≤ (scan i 0 f m k s).1
  | 0, k, s, h => ⟨Nat.le_refl _, fun k' h1 h2 => by omega⟩
  | m + 1, k, s, h => by
    unfold scan
    split
    · rename_i h1
      exact ⟨Nat.le_refl _, fun k' a c _ _ => by have := hmono k k' a c; omega⟩
    · rename_i h1
      split
      · rename_i h2
        exact ⟨by dsimp only; omega, fun k' a c _ _ => by have := hmono k k' a c; dsimp only; omega⟩
      · rename_i h2
        rw [if_neg (by omega)]
        obtain ⟨i1, i2⟩ := scan_max N hmono m (k + 1) s (by omega)
        refine ⟨i1, fun k' a c d e => ?_⟩
        by_cases hk : k' = k
        · subst hk; exact absurd ⟨d, e⟩ h2
        · exact i2 k' (by omega) c d e
theorem nbL_mono {b : List UInt8} {o : List Nat} (ho : Ordered b false o) {p : Nat} (hp : p < b.length) : ∀ k k', k ≤ k' → k' < p → (nbL b o p k').2 ≤ (nbL b o p k).2 := fun k k' h1 h2 => by
  show com b (atN o (p - 1 - k')) (atN o p) ≤ com b (atN o (p - 1 - k)) (atN o p)
  rcases Nat.eq_or_lt_of_le h1 with e | e
  · rw [e]; exact Nat.le_refl _
  · rw [com_min ho (p := p - 1 - k') (q := p - 1 - k) (r := p) (by omega) (by omega) hp]; exact Nat.min_le_right _ _
theorem nbR_mono {b : List UInt8} {o : List Nat} (ho : Ordered b false o) {p : Nat} (hp : p < b.length) : ∀ k k', k ≤ k' → k' < b.length - 1 - p → (nbR b o p k').2 ≤ (nbR b o p k).2 := fun k k' h1 h2 => by
  show com b (atN o p) (atN o (p + 1 + k')) ≤ com b (atN o p) (atN o (p + 1 + k))
  rcases Nat.eq_or_lt_of_le h1 with e | e
  · rw [e]; exact Nat.le_refl _
  · rw [com_min ho (p := p) (q := p + 1 + k) (r := p + 1 + k') (by omega) (by omega) (by omega)]; exact Nat.min_le_left _ _

/-- no hope: nothing ahead has three bytes in common -/
theorem hop_false {b : List UInt8} {o : List Nat} (ho : Ordered b false o) {i j : Nat} (hi : i < b.length) (hj : j < i) (h : hop b o (plc o i) = false) : com b j i < 3 := by
  obtain ⟨p1, p2⟩ := plc_ok ho hi
  obtain ⟨q1, q2⟩ := plc_ok ho (i := j) (by omega)
  generalize plc o i = p at *
  generalize plc o j = q at *
  rw [hop, Bool.or_eq_false_iff] at h
  have hol : o.length = b.length := ho.len
  have hoI : ∀ k, atI (oI o) k = (atN o k : Int) := fun k => atI_nat _ _
  have hlI : (oI o).length = b.length := by simp [oI, hol]
  rcases Nat.lt_trichotomy q p with e | e | e
  · obtain ⟨c1, c2, c3⟩ := bk_spec (oI o) p
    have h1 := h.1
    rw [atI_ahead _ _ _ (by omega)] at h1
    have hb0 : q < bk (oI o) p := Nat.lt_of_not_le fun hle => by
      have := c2 q hle e
      rw [hoI, hoI, p2, q2] at this; omega
    rw [show ((bk (oI o) p : Int) - 1) = ((bk (oI o) p - 1 : Nat) : Int) by omega, eno_iff ho (by omega) p1] at h1
    have h3 : com b (atN o (bk (oI o) p - 1)) (atN o p) < 3 := by simpa using h1
    rw [← p2, ← q2]
    rcases Nat.eq_or_lt_of_le (show q ≤ bk (oI o) p - 1 by omega) with e2 | e2
    · rw [e2]; exact h3
    · rw [com_min ho e2 (by omega) p1]; omega
  · rw [e, p2] at q2; omega
  · obtain ⟨c0, c1, c2, c3⟩ := fw_spec (oI o) p (by omega)
    have h1 := h.2
    rw [atI_behind _ _ _ (by omega)] at h1
    have hb0 : fw (oI o) p ≤ q := Nat.le_of_not_lt fun hle => by
      have := c2 q e hle
      rw [hoI, hoI, p2, q2] at this; omega
    rw [eno_iff ho c0 (by omega)] at h1
    have h3 : com b (atN o p) (atN o (fw (oI o) p)) < 3 := by simpa using h1
    rw [com_comm, ← p2, ← q2]
    rcases Nat.eq_or_lt_of_le hb0 with e2 | e2
    · rw [← e2]; exact h3
    · rw [com_min ho c0 e2 q1]; omega

theorem lng_max {b : List UInt8} {o : List Nat} (ho : Ordered b false o) {i j : Nat} (hi : i < b.length) (hj : j < i) (hw : i - j ≤ 32768) : com b j i < 3 ∨ min (com b j i) 258 ≤ (lng b o 0 i).1 := by
  unfold lng
  cases hh : hop b o (plc o i) with
  | false => left; exact hop_false ho hi hj hh
  | true =>
    rw [if_pos rfl]
    obtain ⟨p1, p2⟩ := plc_ok ho hi
    obtain ⟨q1, q2⟩ := plc_ok ho (i := j) (by omega)
    clear hh
    generalize plc o i = p at *
    generalize plc o j = q at *
    obtain ⟨l1, l2⟩ := scan_max (i := i) p (nbL_mono ho p1) p 0 (0, 0) (by omega)
    obtain ⟨r1, r2⟩ := scan_max (i := i) (b.length - 1 - p) (nbR_mono ho p1) (b.length - 1 - p) 0 (scan i 0 (nbL b o p) p 0 (0, 0)) (by omega)
    dsimp only
    rcases Nat.lt_trichotomy q p with e | e | e
    · have h := l2 (p - 1 - q) (Nat.zero_le _) (by omega)
      have hn : nbL b o p (p - 1 - q) = (j, com b j i) := by rw [nbL, show p - 1 - (p - 1 - q) = q by omega, q2, p2]
      rw [hn] at h
      have := h hj hw
      dsimp only at this
      omega
    · rw [e, p2] at q2; omega
    · have h := r2 (q - p - 1) (Nat.zero_le _) (by omega)
      have hn : nbR b o p (q - p - 1) = (j, com b i j) := by rw [nbR, show p + 1 + (q - p - 1) = q by omega, q2, p2]
      rw [hn] at h
      have := h hj hw
      dsimp only at this
      rw [com_comm b i j] at this
      omega

/-- the longest repetition at a place, by definition -/
def bestF (b : List UInt8) (i : Nat) : Nat → Nat
  | 0 => 0
  | d + 1 => max (bestF b i d) (min 258 (com b (i - (d + 1)) i))
def bestL (b : List UInt8) (i : Nat) : Nat := bestF b i (min i 32768)
theorem bestF_ge (b : List UInt8) (i : Nat) : ∀ m d, 1 ≤ d → d ≤ m → min 258 (com b (i - d) i) ≤ bestF b i m
  | 0, d, h1, h2 => by omega
  | m + 1, d, h1, h2 => by
    rw [bestF]
    by_cases e : d = m + 1
    · rw [e]; omega
    · have := bestF_ge b i m d h1 (by omega); omega
theorem bestF_at (b : List UInt8) (i : Nat) : ∀ m, bestF b i m = 0 ∨ ∃ d, 1 ≤ d ∧ d ≤ m ∧ bestF b i m = min 258 (com b (i - d) i)
  | 0 => .inl rfl
  | m + 1 => by
    rw [bestF]
    rcases bestF_at b i m with h | ⟨d, h1, h2, h3⟩
    · right; exact ⟨m + 1, by omega, by omega, by omega⟩
    · right
      rcases Nat.le_total (bestF b i m) (min 258 (com b (i - (m + 1)) i)) with e | e
      · exact ⟨m + 1, by omega, by omega, by omega⟩
      · exact ⟨d, h1, by omega, by omega⟩
theorem lng_best {b : List UInt8} {o : List Nat} (ho : Ordered b false o) {i : Nat} (hi : i < b.length) : (lng b o 0 i).1 = if bestL b i < 3 then 0 else bestL b i := by
  have h1 := lng_rp ho 0 hi
  have h2 : ∀ j, j < i → i - j ≤ 32768 → com b j i < 3 ∨ min (com b j i) 258 ≤ (lng b o 0 i).1 := fun j => lng_max ho hi
  generalize lng b o 0 i = s at *
  have hup : s.1 ≤ bestL b i := by
    rcases h1 with h1 | ⟨a1, a2, a3, a4, a5, a6⟩
    · omega
    · have := bestF_ge b i (min i 32768) s.2 a3 (by omega)
      unfold bestL; omega
  split
  · rename_i hb; rcases h1 with h1 | h1 <;> omega
  · rename_i hb
    rcases bestF_at b i (min i 32768) with h3 | ⟨d, d1, d2, d3⟩
    · unfold bestL at hb; omega
    · have := h2 (i - d) (by omega) (by omega)
      unfold bestL at *
      omega
end Go.Proofs.Ytnlemaaglbbdnaa
