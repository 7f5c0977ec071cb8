/- Counting the places whose texts are less, as plain laws. No program in sight. -/
import Derived.Test.YtjjdckbdjmbndaaSufG
namespace Go.Proofs.Ytjjdckbdjmbndaa
set_option linter.unusedSimpArgs false
set_option linter.unusedVariables false

theorem less_irr (x : List UInt8) : Op.bytesLess x x = false := by
  cases h : Op.bytesLess x x with
  | false => rfl
  | true => obtain ⟨t, _, h2⟩ := (less_iff _ _).1 h; omega
theorem less_trans {x y z : List UInt8} (h : Op.bytesLess x y = true) (h' : Op.bytesLess y z = true) : Op.bytesLess x z = true := by
  obtain ⟨t, a, b⟩ := (less_iff _ _).1 h
  obtain ⟨u, c, d⟩ := (less_iff _ _).1 h'
  rw [less_iff]
  rcases Nat.lt_trichotomy t u with e | e | e
  · exact ⟨t, fun s hs => (a s hs).trans (c s (by omega)), by have := c t e; omega⟩
  · subst e; exact ⟨t, fun s hs => (a s hs).trans (c s hs), by omega⟩
  · exact ⟨u, fun s hs => (a s (by omega)).trans (c s hs), by have := a u e; omega⟩
theorem less_tri : ∀ x y : List UInt8, Op.bytesLess x y = true ∨ x = y ∨ Op.bytesLess y x = true
  | [], [] => .inr (.inl rfl)
  | [], _ :: _ => .inl rfl
  | _ :: _, [] => .inr (.inr rfl)
  | a :: x, b :: y => by
    have e : ∀ (a b : UInt8) (x y : List UInt8), Op.bytesLess (a :: x) (b :: y) = (decide (a < b) || (a == b && Op.bytesLess x y)) := fun _ _ _ _ => rfl
    rw [e, e]
    rcases Nat.lt_trichotomy a.toNat b.toNat with h | h | h
    · left; simp [UInt8.lt_iff_toNat_lt.2 h]
    · have h' := UInt8.toNat_inj.1 h
      subst h'
      rcases less_tri x y with h1 | h1 | h1
      · left; simp [h1]
      · right; left; rw [h1]
      · right; right; simp [h1]
    · right; right; simp [UInt8.lt_iff_toNat_lt.2 h]

/-- a row that holds each place once has them all -/
theorem perm_range {o : List Nat} {n : Nat} (hn : o.Nodup) (hm : ∀ x, x ∈ o ↔ x < n) : o.Perm (List.range n) := by
  rw [List.perm_iff_count]
  intro a
  rw [hn.count, List.nodup_range.count]
  by_cases h : a < n
  · rw [if_pos ((hm a).2 h), if_pos (List.mem_range.2 h)]
  · rw [if_neg (fun e => h ((hm a).1 e)), if_neg (fun e => h (List.mem_range.1 e))]
theorem Ordered.perm {b : List UInt8} {r : Bool} {o : List Nat} (h : Ordered b r o) : o.Perm (List.range b.length) := by
  refine perm_range ?_ h.ord.mem
  exact h.ord.up.imp fun {x y} hxy e => by
    subst e
    rcases hxy with h1 | ⟨_, h1⟩
    · exact h1.irr EQk.rfl'
    · omega
/-- counted by positions -/
theorem count_low {o : List Nat} {P : Nat → Bool} {q : Nat} (hq : q < o.length) (h : ∀ p, p ≤ q → P (atN o p) = true) : q < o.countP P := by
  rw [← List.take_append_drop (q + 1) o, List.countP_append]
  have : (o.take (q + 1)).countP P = (o.take (q + 1)).length := by
    rw [List.countP_eq_length]
    intro x hx
    obtain ⟨k, hk, e⟩ := List.mem_iff_getElem.1 hx
    rw [List.length_take] at hk
    rw [List.getElem_take] at e
    rw [← e, ← atN_get _ _ (by omega)]; exact h k (by omega)
  rw [this, List.length_take]; omega
theorem count_high {o : List Nat} {P : Nat → Bool} {i : Nat} (h : ∀ p, i ≤ p → p < o.length → P (atN o p) = false) : o.countP P ≤ i := by
  rw [← List.take_append_drop i o, List.countP_append]
  have h1 : (o.take i).countP P ≤ i := Nat.le_trans List.countP_le_length (by rw [List.length_take]; omega)
  have h2 : (o.drop i).countP P = 0 := by
    rw [List.countP_eq_zero]
    intro x hx
    obtain ⟨k, hk, e⟩ := List.mem_iff_getElem.1 hx
    rw [List.length_drop] at hk
    rw [List.getElem_drop] at e
    rw [← e, ← atN_get _ _ (by omega), h (i + k) (by omega) (by omega)]; simp
  omega
/-- positions ahead have no greater text -/
theorem Ordered.le {b : List UInt8} {r : Bool} {o : List Nat} (h : Ordered b r o) {p q : Nat} (hpq : p ≤ q) (hq : q < b.length) : Op.bytesLess (txt b r (atN o q)) (txt b r (atN o p)) = false := by
  by_cases e : p = q
  · subst e; exact less_irr _
  · cases h2 : Op.bytesLess (txt b r (atN o q)) (txt b r (atN o p)) with
    | false => rfl
    | true =>
      rcases h.at (p := p) (q := q) (by omega) hq with h3 | ⟨h3, _⟩
      · have := less_trans h2 h3; rw [less_irr] at this; cases this
      · rw [h3, less_irr] at h2; cases h2
theorem Ordered.at' {b : List UInt8} {r : Bool} {o : List Nat} (h : Ordered b r o) {p q : Nat} (hpq : p ≤ q) (hq : q < b.length) : Op.bytesLess (txt b r (atN o p)) (txt b r (atN o q)) = true ∨ txt b r (atN o p) = txt b r (atN o q) := by
  by_cases e : p = q
  · subst e; exact .inr rfl
  · rcases h.at (p := p) (q := q) (by omega) hq with h1 | ⟨h1, _⟩
    · exact .inl h1
    · exact .inr h1
theorem less_of_le {x y z : List UInt8} (h : Op.bytesLess y x = false) (h' : Op.bytesLess y z = true) : Op.bytesLess x z = true := by
  rcases less_tri x y with h1 | h1 | h1
  · exact less_trans h1 h'
  · rw [h1]; exact h'
  · rw [h1] at h; cases h
theorem le_of_le {x y z : List UInt8} (h : Op.bytesLess y x = false) (h' : Op.bytesLess z y = false) : Op.bytesLess z x = false := by
  cases h1 : Op.bytesLess z x with
  | false => rfl
  | true =>
    rcases less_tri z y with h2 | h2 | h2
    · rw [h2] at h'; cases h'
    · rw [← h2, h1] at h; cases h
    · have := less_trans h2 h1; rw [this] at h; cases h

/-- two texts whose orders tell the same texts, as often each, in the same order -/
theorem same_texts {b c : List UInt8} {o p : List Nat} {N : Nat} (hb : b.length = N) (hc : c.length = N) (ho : Ordered b true o) (hp : Ordered c true p)
    (h : ∀ T, (List.range N).countP (fun x => Op.bytesLess (txt b true x) T) = (List.range N).countP (fun x => Op.bytesLess (txt c true x) T)) (i : Nat) (hi : i < N) : txt b true (atN o i) = txt c true (atN p i) := by
  have co : ∀ T, o.countP (fun x => Op.bytesLess (txt b true x) T) = (List.range N).countP (fun x => Op.bytesLess (txt b true x) T) := fun T => by have := ho.perm.countP_eq (fun x => Op.bytesLess (txt b true x) T); rwa [hb] at this
  have cp : ∀ T, p.countP (fun x => Op.bytesLess (txt c true x) T) = (List.range N).countP (fun x => Op.bytesLess (txt c true x) T) := fun T => by have := hp.perm.countP_eq (fun x => Op.bytesLess (txt c true x) T); rwa [hc] at this
  have lo := ho.len
  have lp := hp.len
  rcases less_tri (txt b true (atN o i)) (txt c true (atN p i)) with h1 | h1 | h1
  · have a1 := count_low (o := o) (P := fun x => Op.bytesLess (txt b true x) (txt c true (atN p i))) (q := i) (by omega) fun q hq => less_of_le (ho.le hq (by omega)) h1
    have a2 := count_high (o := p) (P := fun x => Op.bytesLess (txt c true x) (txt c true (atN p i))) (i := i) fun q hq hql => hp.le hq (by omega)
    rw [co, h, ← cp] at a1
    omega
  · exact h1
  · have a1 := count_low (o := p) (P := fun x => Op.bytesLess (txt c true x) (txt b true (atN o i))) (q := i) (by omega) fun q hq => less_of_le (hp.le hq (by omega)) h1
    have a2 := count_high (o := o) (P := fun x => Op.bytesLess (txt b true x) (txt b true (atN o i))) (i := i) fun q hq hql => ho.le hq (by omega)
    rw [cp, ← h, ← co] at a1
    omega

/-! a rotation's rotations -/
theorem txt_txt (c : List UInt8) (k x : Nat) (hk : k < c.length) (hx : x < c.length) : txt (txt c true k) true x = txt c true ((x + k) % c.length) := by
  have hd : (txt c true k).length = c.length := txt_lenR c k (by omega)
  have hm : (x + k) % c.length < c.length := Nat.mod_lt _ (by omega)
  rw [eq_iff]
  intro t
  by_cases ht : t < c.length
  · rw [txt_sgn _ _ _ _ (by omega) (by omega), txt_sgn _ _ _ _ hm ht]
    have h1 : sgn (txt c true k) ((x + t) % c.length) = sy c true k ((x + t) % c.length) := txt_sgn _ _ _ _ hk (Nat.mod_lt _ (by omega))
    rw [sgn_in _ _ (by rw [hd]; exact Nat.mod_lt _ (by omega))] at h1
    simp only [sy, if_true] at h1 ⊢
    rw [hd, h1]
    congr 3
    rw [Nat.add_mod_mod, Nat.mod_add_mod]
    congr 1; omega
  · rw [txt_out _ _ _ _ (by omega) (by omega), txt_out _ _ _ _ hm (by omega)]
theorem shift_count (N k : Nat) (hk : k < N) (P : Nat → Bool) : (List.range N).countP (fun x => P ((x + k) % N)) = (List.range N).countP P := by
  have hp : ((List.range N).map fun x => (x + k) % N).Perm (List.range N) := by
    have hv : ∀ x, x < N → (x + k) % N = if x + k < N then x + k else x + k - N := fun x hx => by
      split
      · rename_i h; exact Nat.mod_eq_of_lt h
      · rw [Nat.mod_eq_sub_mod (by omega), Nat.mod_eq_of_lt (by omega)]
    refine perm_range ?_ fun x => ?_
    · rw [List.Nodup, List.pairwise_map]
      refine List.pairwise_lt_range.imp_of_mem fun {x y} hx hy h => ?_
      have hx := List.mem_range.1 hx
      have hy := List.mem_range.1 hy
      rw [hv x hx, hv y hy]
      split <;> split <;> omega
    · rw [List.mem_map]
      constructor
      · rintro ⟨y, _, rfl⟩; exact Nat.mod_lt _ (by omega)
      · intro hx
        by_cases h : k ≤ x
        · refine ⟨x - k, List.mem_range.2 (by omega), ?_⟩
          rw [hv _ (by omega), if_pos (by omega)]; omega
        · refine ⟨x + N - k, List.mem_range.2 (by omega), ?_⟩
          rw [hv _ (by omega), if_neg (by omega)]; omega
  rw [← hp.countP_eq P, List.countP_map]; rfl
theorem turned_texts {c : List UInt8} {o p : List Nat} {k : Nat} (hk : k < c.length) (ho : Ordered c true o) (hp : Ordered (txt c true k) true p) (i : Nat) (hi : i < c.length) : txt c true (atN o i) = txt (txt c true k) true (atN p i) := by
  refine same_texts rfl (txt_lenR c k (by omega)) ho hp (fun T => ?_) i hi
  rw [← shift_count c.length k hk (fun x => Op.bytesLess (txt c true x) T)]
  refine List.countP_congr fun x hx => ?_
  rw [txt_txt c k x hk (List.mem_range.1 hx)]

/-! a text, again and again -/
def repB (b : List UInt8) : Nat → List UInt8
  | 0 => []
  | k + 1 => repB b k ++ b
theorem repB_len (b : List UInt8) : ∀ k, (repB b k).length = k * b.length
  | 0 => by simp [repB]
  | k + 1 => by simp [repB, repB_len b k, Nat.succ_mul]
theorem repB_at (b : List UInt8) : ∀ k i, i < k * b.length → at8 (repB b k) i = at8 b (i % b.length)
  | 0, i, h => by omega
  | k + 1, i, h => by
    rw [Nat.succ_mul] at h
    simp only [repB]
    by_cases hi : i < k * b.length
    · rw [← repB_at b k i hi]
      simp [at8, List.getD_eq_getElem?_getD, List.getElem?_append, repB_len, hi]
    · obtain ⟨d, rfl⟩ : ∃ d, i = k * b.length + d := ⟨i - k * b.length, by omega⟩
      rw [Nat.mul_add_mod_self_right]
      simp [at8, List.getD_eq_getElem?_getD, List.getElem?_append, repB_len, Nat.mod_eq_of_lt (by omega : d < b.length)]
      rw [if_neg hi]
theorem repB_txt (b : List UInt8) (k x : Nat) (hx : x < k * b.length) : txt (repB b k) true x = txt (repB b k) true (x % b.length) := by
  have hL : 0 < b.length := by
    rcases Nat.eq_zero_or_pos b.length with h | h
    · rw [h] at hx; omega
    · exact h
  have hk : 0 < k := by
    rcases Nat.eq_zero_or_pos k with h | h
    · subst h; omega
    · exact h
  have hm : x % b.length < k * b.length := Nat.lt_of_lt_of_le (Nat.mod_lt _ hL) (Nat.le_mul_of_pos_left _ hk)
  have hl := repB_len b k
  rw [eq_txt _ _ (by omega) (by omega)]
  intro s hs
  simp only [sy, if_true]
  rw [hl, repB_at b k _ (Nat.mod_lt _ (by omega)), repB_at b k _ (Nat.mod_lt _ (by omega)), Nat.mod_mul_left_mod, Nat.mod_mul_left_mod, Nat.mod_add_mod]
theorem period_count (L : Nat) (P : Nat → Bool) (hP : ∀ x, P (x % L) = P x) : ∀ k, (List.range (k * L)).countP P = k * (List.range L).countP P
  | 0 => by simp
  | k + 1 => by
    rw [Nat.succ_mul, List.range_add, List.countP_append, period_count L P hP k, List.countP_map, Nat.succ_mul]
    congr 1
    refine List.countP_congr fun x hx => ?_
    show P (k * L + x) = true ↔ P x = true
    rw [← hP (k * L + x), Nat.mul_add_mod_self_right, hP]
theorem groups {b : List UInt8} {k : Nat} {o : List Nat} (hk : 0 < k) (ho : Ordered (repB b k) true o) (i : Nat) (hi : i < k * b.length) : txt (repB b k) true (atN o (i - i % k)) = txt (repB b k) true (atN o i) := by
  have hl := repB_len b k
  rcases ho.at' (p := i - i % k) (q := i) (by omega) (by omega) with h | h
  · exfalso
    let P : Nat → Bool := fun x => Op.bytesLess (txt (repB b k) true x) (txt (repB b k) true (atN o i))
    have a1 := count_low (o := o) (P := P) (q := i - i % k) (by rw [ho.len]; omega) fun q hq => less_of_le (ho.le hq (by omega)) h
    have a2 := count_high (o := o) (P := P) (i := i) fun q hq hql => ho.le hq (by rw [← ho.len]; exact hql)
    have hc := ho.perm.countP_eq P
    rw [hl] at hc
    let Q : Nat → Bool := fun x => P (x % b.length)
    have e : (List.range (k * b.length)).countP P = (List.range (k * b.length)).countP Q := List.countP_congr fun x hx => by
      show P x = true ↔ P (x % b.length) = true
      simp only [P]
      rw [repB_txt b k x (List.mem_range.1 hx)]
    rw [e, period_count b.length Q (fun x => by show P (x % b.length % b.length) = P (x % b.length); rw [Nat.mod_mod])] at hc
    rw [hc] at a1 a2
    have hd := Nat.div_add_mod i k
    have hm := Nat.mod_lt i hk
    generalize (List.range b.length).countP Q = s at *
    have e1 : i - i % k = k * (i / k) := by omega
    rw [e1] at a1
    have a3 : i / k < s := Nat.lt_of_mul_lt_mul_left a1
    have a4 : k * (i / k + 1) ≤ k * s := Nat.mul_le_mul_left _ a3
    rw [Nat.mul_add] at a4
    omega
  · exact h
end Go.Proofs.Ytjjdckbdjmbndaa
