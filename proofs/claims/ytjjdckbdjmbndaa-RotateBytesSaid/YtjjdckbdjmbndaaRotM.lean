/- Last bytes of sorted rotations, and the way back, as plain laws. No program in sight. -/
import Derived.Test.YtjjdckbdjmbndaaSufM
import Derived.Test.YtjjdckbdjmbndaaPerm
namespace Go.Proofs.Ytjjdckbdjmbndaa
set_option linter.unusedSimpArgs false
set_option linter.unusedVariables false

def kyB (b : List UInt8) (i : Nat) : Nat := (at8 b i).toNat
theorem kyB_lt (b : List UInt8) (i : Nat) : kyB b i < 256 := UInt8.toNat_lt _
/-- all places, by the bytes there -/
def wayL (b : List UInt8) : List Nat := csort (kyB b) (List.range b.length) 256
theorem wayL_mem (b : List UInt8) (x : Nat) : x ∈ wayL b ↔ x < b.length := by rw [wayL, csort_mem _ _ _ (fun i _ => kyB_lt b i)]; simp
theorem wayL_len (b : List UInt8) : (wayL b).length = b.length := by rw [wayL, csort_len _ _ _ (fun i _ => kyB_lt b i)]; simp
theorem wayL_lt (b : List UInt8) {p : Nat} (hp : p < b.length) : atN (wayL b) p < b.length := by
  rw [atN_get _ _ (by rw [wayL_len]; exact hp)]; exact (wayL_mem b _).1 (List.getElem_mem _)
theorem wayL_up (b : List UInt8) {p q : Nat} (hpq : p < q) (hq : q < b.length) : kyB b (atN (wayL b) p) < kyB b (atN (wayL b) q) ∨ (kyB b (atN (wayL b) p) = kyB b (atN (wayL b) q) ∧ atN (wayL b) p < atN (wayL b) q) := by
  have h := csort_pairwise (kyB b) (· < ·) (List.range b.length) List.pairwise_lt_range 256
  have hl := wayL_len b
  rw [atN_get _ _ (by omega), atN_get _ _ (by omega)]
  exact List.pairwise_iff_getElem.1 h p q (by show p < (wayL b).length; omega) (by show q < (wayL b).length; omega) hpq
theorem wayL_inj (b : List UInt8) {p q : Nat} (hp : p < b.length) (hq : q < b.length) (e : atN (wayL b) p = atN (wayL b) q) : p = q := by
  rcases Nat.lt_trichotomy p q with h | h | h
  · have := wayL_up b h hq; rw [e] at this; omega
  · exact h
  · have := wayL_up b h hp; rw [e] at this; omega
/-- where a walk comes -/
def seqAt (W : List Nat) (p : Nat) : Nat → Nat
  | 0 => p
  | k + 1 => atN W (seqAt W p k)
theorem seqAt_lt (b : List UInt8) {p : Nat} (hp : p < b.length) : ∀ k, seqAt (wayL b) p k < b.length
  | 0 => hp
  | k + 1 => wayL_lt b (seqAt_lt b hp k)
/-- the bytes that a walk says -/
def saidL (b : List UInt8) (p m : Nat) : List UInt8 := (List.range m).map fun k => at8 b (seqAt (wayL b) p (k + 1))
theorem saidL_succ (b : List UInt8) (p m : Nat) : saidL b p (m + 1) = saidL b p m ++ [at8 b (seqAt (wayL b) p (m + 1))] := by simp [saidL, List.range_succ]
theorem saidL_len (b : List UInt8) (p m : Nat) : (saidL b p m).length = m := by simp [saidL]
def backL (b : List UInt8) (p : Nat) : List UInt8 := saidL b p b.length
/-- the last bytes -/
def lastL (b : List UInt8) (o : List Nat) : List UInt8 := o.map fun i => at8 b ((i + b.length - 1) % b.length)
/-- where the text itself stands -/
def zeroP (o : List Nat) : Nat → Nat
  | 0 => 0
  | m + 1 => if atN o m = 0 then m else zeroP o m
theorem zeroP_of (o : List Nat) {p : Nat} (hu : ∀ q, q < o.length → atN o q = 0 → q = p) : ∀ m, m ≤ o.length → p < m → atN o p = 0 → zeroP o m = p
  | 0, _, h, _ => by omega
  | m + 1, hm, h, he => by
    simp only [zeroP]
    by_cases e : atN o m = 0
    · rw [if_pos e]; exact hu m (by omega) e
    · rw [if_neg e]
      have : p ≠ m := by rintro rfl; exact e he
      exact zeroP_of o hu m (by omega) (by omega) he
theorem zeroP_none (o : List Nat) (m : Nat) (h : zeroP o m = 0 ∨ atN o (zeroP o m) = 0) : True := trivial
theorem zeroP_lt (o : List Nat) : ∀ m, zeroP o m < max 1 m
  | 0 => by simp [zeroP]
  | m + 1 => by have := zeroP_lt o m; simp only [zeroP]; split <;> omega

/-- counted through a turn of the places -/
theorem bij_count (n : Nat) (f : Nat → Nat) (h : ∀ p, p < n → f p < n) (hi : ∀ p q, p < n → q < n → f p = f q → p = q) (P : Nat → Bool) : (List.range n).countP (fun p => P (f p)) = (List.range n).countP P := by
  have hp : ((List.range n).map f).Perm (List.range n) := by
    refine perm_range ?_ fun x => ?_
    · rw [List.Nodup, List.pairwise_map]
      refine List.pairwise_lt_range.imp_of_mem fun {x y} hx hy hxy e => ?_
      have := hi x y (List.mem_range.1 hx) (List.mem_range.1 hy) e
      omega
    · rw [List.mem_map]
      constructor
      · rintro ⟨y, hy, rfl⟩; exact h y (List.mem_range.1 hy)
      · intro hx
        obtain ⟨p, hp, e⟩ := surj_of_inj n f h hi x hx
        exact ⟨p, List.mem_range.2 hp, e⟩
  rw [← hp.countP_eq P, List.countP_map]; rfl

theorem rowcount (n : Nat) (f : Nat → Nat) (P : Nat → Bool) : (rowN f n).countP P = (List.range n).countP fun p => P (f p) := by rw [rowN, List.countP_map]; rfl
/-- two rows of texts that do not fall and have the same texts are one -/
theorem sorted_eq {n : Nat} {A B : Nat → List UInt8} (hA : ∀ p q, p ≤ q → q < n → Op.bytesLess (A q) (A p) = false) (hB : ∀ p q, p ≤ q → q < n → Op.bytesLess (B q) (B p) = false)
    (h : ∀ T, (List.range n).countP (fun p => Op.bytesLess (A p) T) = (List.range n).countP (fun p => Op.bytesLess (B p) T)) (i : Nat) (hi : i < n) : A i = B i := by
  have at_r : ∀ p, p < n → atN (List.range n) p = p := fun p hp => by simp [atN, hp]
  have low : ∀ (X : Nat → List UInt8) T, (∀ p q, p ≤ q → q < n → Op.bytesLess (X q) (X p) = false) → Op.bytesLess (X i) T = true → i < (List.range n).countP (fun p => Op.bytesLess (X p) T) := fun X T hX hT =>
    count_low (o := List.range n) (P := fun p => Op.bytesLess (X p) T) (by simpa using hi) fun q hq => by rw [at_r q (by omega)]; exact less_of_le (hX q i hq hi) hT
  have high : ∀ (X : Nat → List UInt8), (∀ p q, p ≤ q → q < n → Op.bytesLess (X q) (X p) = false) → (List.range n).countP (fun p => Op.bytesLess (X p) (X i)) ≤ i := fun X hX =>
    count_high (o := List.range n) (P := fun p => Op.bytesLess (X p) (X i)) fun q hq hql => by
      have hql : q < n := by simpa using hql
      rw [at_r q hql]; exact hX i q hq hql
  rcases less_tri (A i) (B i) with h1 | h1 | h1
  · have a1 := low A (B i) hA h1
    have a2 := high B hB
    rw [h] at a1; omega
  · exact h1
  · have a1 := low B (A i) hB h1
    have a2 := high A hA
    rw [← h] at a1; omega

section
variable {b : List UInt8} {o : List Nat}
theorem mod_back (i s n : Nat) (hn : 0 < n) : ((i + n - 1) % n + (s + 1)) % n = (i + s) % n := by
  rw [Nat.mod_add_mod, show i + n - 1 + (s + 1) = i + s + n by omega, Nat.add_mod_right]
theorem sy_back (b : List UInt8) (i s : Nat) (hn : 0 < b.length) : sy b true ((i + b.length - 1) % b.length) (s + 1) = sy b true i s := by
  simp only [sy, if_true]; rw [mod_back _ _ _ hn]
theorem lastL_len (b : List UInt8) (o : List Nat) : (lastL b o).length = o.length := by simp [lastL]
theorem lastL_at (ho : Ordered b true o) {p : Nat} (hp : p < b.length) : at8 (lastL b o) p = at8 b ((atN o p + b.length - 1) % b.length) := by
  have := ho.len
  simp [lastL, at8, atN, List.getD_eq_getElem?_getD, List.getElem?_map, (by omega : p < o.length)]
/-- of two like texts, those from one place further on are like -/
theorem txt_next {i j : Nat} (hi : i < b.length) (hj : j < b.length) (h : txt b true i = txt b true j) : txt b true ((i + 1) % b.length) = txt b true ((j + 1) % b.length) := by
  have hm : ∀ x, x % b.length < b.length := fun x => Nat.mod_lt _ (by omega)
  rw [eq_txt b true hi hj] at h
  rw [eq_txt b true (hm _) (hm _)]
  intro s hs
  have h1 := sy_all b true hi hj h (s + 1)
  simp only [sy, if_true] at h1 ⊢
  rw [Nat.mod_add_mod, Nat.mod_add_mod, show i + 1 + s = i + (s + 1) by omega, show j + 1 + s = j + (s + 1) by omega]
  exact h1
theorem txt_last {i j : Nat} (hi : i < b.length) (hj : j < b.length) (h : txt b true i = txt b true j) : at8 b ((i + b.length - 1) % b.length) = at8 b ((j + b.length - 1) % b.length) := by
  rw [eq_txt b true hi hj] at h
  have h1 := h (b.length - 1) (by omega)
  simp only [sy, if_true] at h1
  rw [show i + b.length - 1 = i + (b.length - 1) by omega, show j + b.length - 1 = j + (b.length - 1) by omega]
  exact UInt8.toNat_inj.1 (by omega)

/-- one step of the way: one place further on in the text -/
theorem way_step (ho : Ordered b true o) {p : Nat} (hp : p < b.length) : txt b true (atN o (atN (wayL (lastL b o)) p)) = txt b true ((atN o p + 1) % b.length) := by
  have hn : 0 < b.length := by omega
  have hl : (lastL b o).length = b.length := by rw [lastL_len, ho.len]
  have hW : ∀ p, p < b.length → atN (wayL (lastL b o)) p < b.length := fun p hp => by have := wayL_lt (lastL b o) (p := p) (by omega); omega
  have hm : ∀ x, x % b.length < b.length := fun x => Nat.mod_lt _ hn
  have ho' : ∀ p, p < b.length → atN o p < b.length := fun p hp => ho.ord.lt hp
  have key := sorted_eq (n := b.length) (A := fun p => txt b true ((atN o (atN (wayL (lastL b o)) p) + b.length - 1) % b.length)) (B := fun p => txt b true (atN o p)) ?_ (fun p q hpq hq => ho.le hpq hq) ?_ p hp
  · have h2 := txt_next (hm _) (ho' p hp) key
    rw [← h2]
    congr 1
    have h3 := ho' _ (hW p hp)
    rw [Nat.mod_add_mod, show atN o (atN (wayL (lastL b o)) p) + b.length - 1 + 1 = atN o (atN (wayL (lastL b o)) p) + b.length by omega, Nat.add_mod_right, Nat.mod_eq_of_lt h3]
  · intro p q hpq hq
    show Op.bytesLess (txt b true _) (txt b true _) = false
    by_cases e : p = q
    · subst e; exact less_irr _
    cases hless : Op.bytesLess (txt b true ((atN o (atN (wayL (lastL b o)) q) + b.length - 1) % b.length)) (txt b true ((atN o (atN (wayL (lastL b o)) p) + b.length - 1) % b.length)) with
    | false => rfl
    | true =>
      exfalso
      rw [less_txt b true (hm _) (hm _)] at hless
      obtain ⟨t, ht, h1, h2⟩ := hless
      have hup := wayL_up (lastL b o) (p := p) (q := q) (by omega) (by omega)
      have hwp := hW p (by omega)
      have hwq := hW q hq
      have e0 : ∀ x, x < b.length → sy b true ((atN o x + b.length - 1) % b.length) 0 = kyB (lastL b o) x + 1 := fun x hx => by
        rw [sy_zero b true _ (hm _), kyB, lastL_at ho hx]
      cases t with
      | zero => rw [e0 _ hwq, e0 _ hwp] at h2; omega
      | succ t =>
        have h0 := h1 0 (by omega)
        rw [e0 _ hwq, e0 _ hwp] at h0
        rcases hup with h3 | ⟨_, h3⟩
        · omega
        · have h4 := ho.le (p := atN (wayL (lastL b o)) p) (q := atN (wayL (lastL b o)) q) (by omega) hwq
          have h5 : Op.bytesLess (txt b true (atN o (atN (wayL (lastL b o)) q))) (txt b true (atN o (atN (wayL (lastL b o)) p))) = true := by
            rw [less_txt b true (ho' _ hwq) (ho' _ hwp)]
            refine ⟨t, by omega, fun s hs => ?_, ?_⟩
            · have := h1 (s + 1) (by omega); rwa [sy_back _ _ _ hn, sy_back _ _ _ hn] at this
            · rwa [sy_back _ _ _ hn, sy_back _ _ _ hn] at h2
          rw [h5] at h4; cases h4
  · intro T
    have h1 := bij_count b.length (fun p => (atN o (atN (wayL (lastL b o)) p) + b.length - 1) % b.length) (fun p _ => hm _) (fun p q hp hq e => by
      have a1 := ho' _ (hW p hp)
      have a2 := ho' _ (hW q hq)
      have hv : ∀ x, x < b.length → (x + b.length - 1) % b.length = if x = 0 then b.length - 1 else x - 1 := fun x hx => by
        split
        · rename_i h; rw [h, Nat.zero_add, Nat.mod_eq_of_lt (by omega)]
        · rw [show x + b.length - 1 = (x - 1) + b.length by omega, Nat.add_mod_right, Nat.mod_eq_of_lt (by omega)]
      rw [hv _ a1, hv _ a2] at e
      have e2 : atN o (atN (wayL (lastL b o)) p) = atN o (atN (wayL (lastL b o)) q) := by split at e <;> split at e <;> omega
      exact wayL_inj (lastL b o) (by omega) (by omega) (ho.ord.inj (hW p hp) (hW q hq) e2)) (fun x => Op.bytesLess (txt b true x) T)
    have h2 := bij_count b.length (fun p => atN o p) (fun p hp => ho' p hp) (fun p q hp hq e => ho.ord.inj hp hq e) (fun x => Op.bytesLess (txt b true x) T)
    exact h1.trans h2.symm
theorem walk_texts (ho : Ordered b true o) {p : Nat} (hp : p < b.length) : ∀ k, txt b true (atN o (seqAt (wayL (lastL b o)) p k)) = txt b true ((atN o p + k) % b.length)
  | 0 => by
    have := ho.ord.lt hp
    simp only [seqAt]
    rw [Nat.add_zero, Nat.mod_eq_of_lt this]
  | k + 1 => by
    have hl : (lastL b o).length = b.length := by rw [lastL_len, ho.len]
    have hs := seqAt_lt (lastL b o) (p := p) (by omega) k
    rw [hl] at hs
    simp only [seqAt]
    rw [way_step ho hs, txt_next (ho.ord.lt hs) (Nat.mod_lt _ (by omega)) (walk_texts ho hp k), Nat.mod_add_mod, Nat.add_assoc]
/-- from each place on a rotation of the text is said -/
theorem back_text (ho : Ordered b true o) {p : Nat} (hp : p < b.length) : backL (lastL b o) p = txt b true (atN o p) := by
  have hl : (lastL b o).length = b.length := by rw [lastL_len, ho.len]
  have h0 := ho.ord.lt hp
  apply List.ext_getElem (by rw [backL, saidL_len, hl, txt_lenR b _ (by omega)])
  intro k h1 h2
  have hk : k < b.length := by rw [txt_lenR b _ (by omega)] at h2; exact h2
  have hs := seqAt_lt (lastL b o) (p := p) (by omega) (k + 1)
  rw [hl] at hs
  have e1 : (backL (lastL b o) p)[k] = at8 (lastL b o) (seqAt (wayL (lastL b o)) p (k + 1)) := by simp [backL, saidL]
  rw [e1, lastL_at ho hs, txt_last (ho.ord.lt hs) (Nat.mod_lt _ (by omega)) (walk_texts ho hp (k + 1))]
  have e2 : (txt b true (atN o p))[k] = at8 (txt b true (atN o p)) k := by simp [at8, h2]
  have e3 := txt_sgn b true (atN o p) k h0 hk
  rw [sgn_in _ _ h2] at e3
  simp only [sy, if_true] at e3
  rw [e2, UInt8.toNat_inj.1 (Nat.succ.inj e3)]
  congr 1
  rw [show (atN o p + (k + 1)) % b.length + b.length - 1 = (atN o p + (k + 1)) % b.length + (b.length - 1) by omega, Nat.mod_add_mod, show atN o p + (k + 1) + (b.length - 1) = atN o p + k + b.length by omega, Nat.add_mod_right]
theorem zero_at (ho : Ordered b true o) (hn : 0 < b.length) : zeroP o b.length < b.length ∧ atN o (zeroP o b.length) = 0 := by
  obtain ⟨p, hp, e⟩ := ho.ord.idx hn
  have := zeroP_of o (p := p) (fun q hq he => ho.ord.inj (by rw [← ho.len]; exact hq) hp (by rw [he, e])) b.length (by rw [ho.len]; exact Nat.le_refl _) hp e
  rw [this]; exact ⟨hp, e⟩
/-- whatever is turned comes back -/
theorem back_turn (ho : Ordered b true o) (hn : 0 < b.length) : backL (lastL b o) (zeroP o b.length) = b := by
  obtain ⟨h1, h2⟩ := zero_at ho hn
  rw [back_text ho h1, h2]
  simp [txt]
end
end Go.Proofs.Ytjjdckbdjmbndaa
