/- What neighbours in the order of the ends have in common, as plain laws. No program in sight. -/
import Derived.Test.YtnlemaaglbbdnaaSufG
import Derived.Test.YtnlemaaglbbdnaaPerm
namespace Go.Proofs.Ytnlemaaglbbdnaa
set_option linter.unusedSimpArgs false
set_option linter.unusedVariables false

/-- do two places go on alike? -/
def onB (b : List UInt8) (i j : Nat) : Bool := decide (i < b.length) && decide (j < b.length) && (at8 b i == at8 b j)
/-- what is common to two places of a text -/
def comF (b : List UInt8) (i j : Nat) : Nat → Nat
  | 0 => 0
  | f + 1 => if onB b i j then comF b (i + 1) (j + 1) f + 1 else 0
def com (b : List UInt8) (i j : Nat) : Nat := comF b i j (b.length + 1)
/-- it is n -/
def Com (b : List UInt8) (i j n : Nat) : Prop := (∀ s, s < n → onB b (i + s) (j + s) = true) ∧ onB b (i + n) (j + n) = false
theorem onB_iff (b : List UInt8) (i j : Nat) : onB b i j = true ↔ i < b.length ∧ j < b.length ∧ at8 b i = at8 b j := by simp [onB, and_assoc]
theorem comF_of (b : List UInt8) : ∀ (n f i j : Nat), n < f → Com b i j n → comF b i j f = n
  | n, 0, i, j, h, _ => by omega
  | 0, f + 1, i, j, h, hc => by
    have := hc.2
    simp only [Nat.add_zero] at this
    simp [comF, this]
  | n + 1, f + 1, i, j, h, hc => by
    have h0 := hc.1 0 (by omega)
    simp only [Nat.add_zero] at h0
    rw [comF, if_pos h0, comF_of b n f (i + 1) (j + 1) (by omega) ⟨fun s hs => by have := hc.1 (s + 1) (by omega); rwa [show i + 1 + s = i + (s + 1) by omega, show j + 1 + s = j + (s + 1) by omega], by
      have := hc.2; rwa [show i + 1 + n = i + (n + 1) by omega, show j + 1 + n = j + (n + 1) by omega]⟩]
theorem Com.le {b : List UInt8} {i j n : Nat} (h : Com b i j n) : n ≤ b.length := by
  rcases Nat.eq_zero_or_pos n with e | e
  · omega
  · have := ((onB_iff _ _ _).1 (h.1 (n - 1) (by omega))).1; omega
theorem Com.eq {b : List UInt8} {i j n : Nat} (h : Com b i j n) : com b i j = n := comF_of b n _ i j (by have := h.le; omega) h

theorem comF_le (b : List UInt8) : ∀ f i j, i + comF b i j f ≤ max i b.length
  | 0, i, j => by simp [comF]; omega
  | f + 1, i, j => by
    rw [comF]
    split
    · rename_i h
      have := comF_le b f (i + 1) (j + 1)
      have := ((onB_iff _ _ _).1 h).1
      omega
    · omega
theorem com_le (b : List UInt8) (i j : Nat) : com b i j ≤ b.length := by
  have := comF_le b (b.length + 1) i j
  rw [com]
  rcases Nat.lt_or_ge i b.length with h | h
  · omega
  · have : i + comF b i j (b.length + 1) ≤ i := by omega
    omega

/-- the first unlike sign of two ends -/
def Dif (b : List UInt8) (x y t : Nat) : Prop := (∀ s, s < t → sgn b (x + s) = sgn b (y + s)) ∧ sgn b (x + t) < sgn b (y + t)
theorem Dif.com {b : List UInt8} {x y t : Nat} (h : Dif b x y t) : Com b x y t := by
  have hy : y + t < b.length := Nat.lt_of_not_le fun e => by have := h.2; rw [sgn_out b (y + t) e] at this; omega
  have hx : ∀ s, s < t → x + s < b.length := fun s hs => Nat.lt_of_not_le fun e => by
    have h1 := h.1 s hs
    rw [sgn_out b (x + s) e, sgn_in b (y + s) (by omega)] at h1
    omega
  refine ⟨fun s hs => (onB_iff _ _ _).2 ⟨hx s hs, by omega, ?_⟩, ?_⟩
  · have h1 := h.1 s hs
    rw [sgn_in _ _ (hx s hs), sgn_in _ _ (by omega)] at h1
    exact UInt8.toNat_inj.1 (by omega)
  · cases hc : onB b (x + t) (y + t) with
    | false => rfl
    | true =>
      obtain ⟨h1, h2, h3⟩ := (onB_iff _ _ _).1 hc
      have := h.2
      rw [sgn_in _ _ h1, sgn_in _ _ h2, h3] at this
      omega
theorem Dif.min {b : List UInt8} {x y z s t : Nat} (h : Dif b x y s) (k : Dif b y z t) : Dif b x z (min s t) := by
  rcases Nat.lt_trichotomy s t with e | e | e
  · rw [Nat.min_eq_left (by omega)]
    exact ⟨fun u hu => (h.1 u hu).trans (k.1 u (by omega)), by have := k.1 s e; have := h.2; omega⟩
  · subst e; rw [Nat.min_self]; exact ⟨fun u hu => (h.1 u hu).trans (k.1 u hu), by have := k.2; have := h.2; omega⟩
  · rw [Nat.min_eq_right (by omega)]
    exact ⟨fun u hu => (h.1 u (by omega)).trans (k.1 u hu), by have := k.2; have := h.1 t e; omega⟩
theorem Dif.next {b : List UInt8} {x y t : Nat} (h : Dif b x y (t + 1)) : Dif b (x + 1) (y + 1) t :=
  ⟨fun s hs => by have := h.1 (s + 1) (by omega); rwa [show x + 1 + s = x + (s + 1) by omega, show y + 1 + s = y + (s + 1) by omega], by
    have := h.2; rwa [show x + 1 + t = x + (t + 1) by omega, show y + 1 + t = y + (t + 1) by omega]⟩
/-- ends rise -/
theorem Ordered.dif {b : List UInt8} {o : List Nat} (h : Ordered b false o) {p q : Nat} (hpq : p < q) (hq : q < b.length) : Dif b (atN o p) (atN o q) (com b (atN o p) (atN o q)) := by
  have : ∃ t, Dif b (atN o p) (atN o q) t := by
    rcases h.ord.at hpq hq with ⟨t, _, h1, h2⟩ | ⟨h1, h2⟩
    · exact ⟨t, by simpa [sy] using h1, by simpa [sy] using h2⟩
    · exfalso
      have a1 := h.ord.lt (p := p) (by omega)
      have a2 := h.ord.lt hq
      have := h1 (b.length - atN o q) (by omega)
      simp only [sy, Bool.false_eq_true, if_false] at this
      rw [sgn_out b (atN o q + (b.length - atN o q)) (by omega), sgn_in b _ (by omega)] at this
      omega
  obtain ⟨t, ht⟩ := this
  rw [ht.com.eq]; exact ht
/-- and back: where an end comes before another, it stands ahead of it -/
theorem Ordered.back {b : List UInt8} {o : List Nat} (h : Ordered b false o) {p q t : Nat} (hp : p < b.length) (hq : q < b.length) (hd : Dif b (atN o p) (atN o q) t) : p < q := by
  apply Nat.lt_of_not_le
  intro e
  rcases Nat.eq_or_lt_of_le e with e | e
  · subst e; have := hd.2; omega
  · have hd2 := h.dif e hp
    have := (hd.min hd2).2
    omega
theorem com_min {b : List UInt8} {o : List Nat} (h : Ordered b false o) {p q r : Nat} (hpq : p < q) (hqr : q < r) (hr : r < b.length) : com b (atN o p) (atN o r) = min (com b (atN o p) (atN o q)) (com b (atN o q) (atN o r)) :=
  ((h.dif hpq (by omega)).min (h.dif hqr hr)).com.eq

/-- the heights -/
def hgt (b : List UInt8) (o : List Nat) (p : Nat) : Nat := if p = 0 then 0 else com b (atN o (p - 1)) (atN o p)
def hgtL (b : List UInt8) (o : List Nat) : List Nat := rowN (hgt b o) b.length
/-- from one place to the next a height falls by one at most -/
theorem kasai {b : List UInt8} {o : List Nat} (h : Ordered b false o) {p q : Nat} (hp : p < b.length) (hq : q < b.length) (hpq : atN o q = atN o p + 1) (hq0 : q ≠ 0) : hgt b o p - 1 ≤ hgt b o q := by
  unfold hgt
  by_cases hp0 : p = 0
  · simp [hp0]
  rw [if_neg hp0, if_neg hq0]
  rcases Nat.lt_or_ge (com b (atN o (p - 1)) (atN o p)) 2 with h2 | h2
  · omega
  have hd := h.dif (p := p - 1) (q := p) (by omega) hp
  obtain ⟨t, ht⟩ : ∃ t, com b (atN o (p - 1)) (atN o p) = t + 1 := ⟨com b (atN o (p - 1)) (atN o p) - 1, by omega⟩
  rw [ht] at hd ⊢
  have hx := ((onB_iff _ _ _).1 (hd.com.1 1 (by omega))).1
  have hn := hd.next
  rw [← hpq] at hn
  obtain ⟨r, hr, hre⟩ := h.ord.idx hx
  rw [← hre] at hn
  have hrq := h.back hr hq hn
  rw [Nat.add_sub_cancel, ← hn.com.eq]
  rcases Nat.lt_or_ge r (q - 1) with e | e
  · rw [com_min h e (by omega) hq]; exact Nat.min_le_right _ _
  · have : r = q - 1 := by omega
    rw [this]; exact Nat.le_refl _

/-- the least of some numbers in a row, from place a on, k more -/
def lstI (xs : List Int) (a : Nat) : Nat → Int
  | 0 => atI xs a
  | k + 1 => min (lstI xs a k) (atI xs (a + (k + 1)))
/-- the least height between two is what is common to them -/
theorem lst_com {b : List UInt8} {o : List Nat} (h : Ordered b false o) (p : Nat) : ∀ k, p + 1 + k < b.length → lstI ((hgtL b o).map fun c : Nat => (c : Int)) (p + 1) k = (com b (atN o p) (atN o (p + 1 + k)) : Int)
  | 0, hk => by
    simp only [lstI]
    rw [atI_nat, hgtL, atN_row _ _ _ (by omega), hgt, if_neg (by omega)]
    simp
  | k + 1, hk => by
    simp only [lstI]
    rw [lst_com h p k (by omega), atI_nat, hgtL, atN_row _ _ _ (by omega), hgt, if_neg (by omega), show p + 1 + (k + 1) - 1 = p + 1 + k by omega, com_min h (p := p) (q := p + 1 + k) (r := p + 1 + (k + 1)) (by omega) (by omega) (by omega)]
    omega
theorem hgtL_len (b : List UInt8) (o : List Nat) : (hgtL b o).length = b.length := rowN_len _ _
end Go.Proofs.Ytnlemaaglbbdnaa
