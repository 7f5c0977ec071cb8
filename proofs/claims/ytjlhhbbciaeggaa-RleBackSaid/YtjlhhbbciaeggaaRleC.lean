/- Runs of bytes: the plain law's second part: pieces byte by byte; what pieces are told by; what is said. -/
import Derived.Test.YtjlhhbbciaeggaaRleA
namespace Go.Proofs.Ytjlhhbbciaeggaa
set_option linter.unusedSimpArgs false
set_option linter.unusedVariables false
open Go.RowKit

/-- one more byte: it belongs to the last piece, or begins another -/
def ext (l : List (UInt8 × Nat)) (c : UInt8) : List (UInt8 × Nat) :=
  match l.getLast? with
  | some (d, n) => if d = c ∧ n < 255 then l.dropLast ++ [(d, n + 1)] else l ++ [(c, 1)]
  | none => [(c, 1)]
theorem ext_snoc (l : List (UInt8 × Nat)) (d : UInt8) (n : Nat) (c : UInt8) : ext (l ++ [(d, n)]) c = if d = c ∧ n < 255 then l ++ [(d, n + 1)] else l ++ [(d, n)] ++ [(c, 1)] := by
  unfold ext
  rw [show (l ++ [(d, n)]).getLast? = some (d, n) by simp]
  simp only [List.dropLast_concat]
theorem ext_ne (l : List (UInt8 × Nat)) (c : UInt8) : ext l c ≠ [] := by
  unfold ext
  split
  · split <;> simp
  · simp
theorem ext_cons (p : UInt8 × Nat) (l : List (UInt8 × Nat)) (hl : l ≠ []) (c : UInt8) : ext (p :: l) c = p :: ext l c := by
  obtain ⟨i, ⟨d, n⟩, rfl⟩ : ∃ i x, l = i ++ [x] := ⟨l.dropLast, l.getLast hl, (List.dropLast_concat_getLast hl).symm⟩
  rw [← List.cons_append, ext_snoc, ext_snoc]
  split <;> simp
theorem fold_cons : ∀ (xs : List UInt8) (p : UInt8 × Nat) (l : List (UInt8 × Nat)), l ≠ [] → xs.foldl ext (p :: l) = p :: xs.foldl ext l
  | [], p, l, _ => rfl
  | x :: xs, p, l, h => by rw [List.foldl_cons, List.foldl_cons, ext_cons p l h, fold_cons xs p _ (ext_ne l x)]
theorem fold_run (c : UInt8) : ∀ (j k : Nat), k + j ≤ 255 → (List.replicate j c).foldl ext [(c, k)] = [(c, k + j)]
  | 0, k, _ => rfl
  | j + 1, k, h => by
    have e : ext [(c, k)] c = [(c, k + 1)] := by
      have := ext_snoc [] c k c
      simp only [List.nil_append] at this
      rw [this, if_pos (by simp; omega)]
    rw [List.replicate_succ, List.foldl_cons, e, fold_run c j (k + 1) (by omega), show k + 1 + j = k + (j + 1) by omega]
theorem fold_pcsF : ∀ (f : Nat) (b : List UInt8), b.length ≤ f → b.foldl ext [] = pcsF f b
  | 0, b, h => by
    obtain rfl : b = [] := List.eq_nil_of_length_eq_zero (by omega)
    rfl
  | f + 1, [], _ => rfl
  | f + 1, c :: xs, h => by
    obtain ⟨n, hn⟩ : ∃ n, runN (c :: xs) = n := ⟨_, rfl⟩
    have h1 := runN_pos (b := c :: xs) (by simp)
    have h2 := runN_le (c :: xs)
    have h3 := runN_take (c :: xs) (by simp)
    have h4 := runN_step (c :: xs) n (by omega) (by omega)
    rw [hn] at h1 h2 h3 h4
    have e : c :: xs = List.replicate n c ++ (c :: xs).drop n := by
      have := List.take_append_drop n (c :: xs)
      rw [h3] at this
      simpa [at8] using this.symm
    have hl : ((c :: xs).drop n).length ≤ f := by rw [List.length_drop]; simp only [List.length_cons] at h ⊢; omega
    have ih := fold_pcsF f ((c :: xs).drop n) hl
    obtain ⟨j, rfl⟩ : ∃ j, n = j + 1 := ⟨n - 1, by omega⟩
    have e2 : (c :: xs).foldl ext [] = ((c :: xs).drop (j + 1)).foldl ext [(c, j + 1)] := by
      conv => lhs; rw [e]
      rw [List.foldl_append, List.replicate_succ, List.foldl_cons, show ext [] c = [(c, 1)] from rfl, fold_run c j 1 (by omega), Nat.add_comm 1 j]
    rw [e2, pcsF, hn, ← ih]
    cases hr : (c :: xs).drop (j + 1) with
    | nil => rfl
    | cons d r =>
      have hlen : j + 1 < (c :: xs).length := by
        have : ((c :: xs).drop (j + 1)).length = r.length + 1 := by rw [hr]; rfl
        rw [List.length_drop] at this; omega
      have hd : at8 (c :: xs) (j + 1) = d := by
        have : ((c :: xs).drop (j + 1))[0]? = some d := by rw [hr]; rfl
        rw [List.getElem?_drop, Nat.add_zero] at this
        simp [at8, this]
      have hne : ¬ (c = d ∧ j + 1 < 255) := by
        rintro ⟨rfl, h5⟩
        exact absurd (h4.2 ⟨hlen, h5, by rw [hd]; simp [at8]⟩) (Nat.lt_irrefl _)
      have e3 : ext [(c, j + 1)] d = (c, j + 1) :: [(d, 1)] := by
        have := ext_snoc [] c (j + 1) d
        simp only [List.nil_append] at this
        rw [this, if_neg hne]; rfl
      rw [List.foldl_cons, e3, fold_cons r _ _ (by simp), List.foldl_cons]
      rfl
theorem fold_pcs (b : List UInt8) : b.foldl ext [] = pcs b := fold_pcsF _ b (Nat.le_refl _)
theorem pcs_snoc (b : List UInt8) (c : UInt8) : pcs (b ++ [c]) = ext (pcs b) c := by
  rw [← fold_pcs, ← fold_pcs, List.foldl_append]; rfl

/-- a piece, told -/
def pkd (p : UInt8 × Nat) : List UInt8 := List.replicate (min p.2 4) p.1 ++ if 4 ≤ p.2 then [UInt8.ofNat (p.2 - 4)] else []
theorem pkd_len (p : UInt8 × Nat) : (pkd p).length = if 4 ≤ p.2 then 5 else p.2 := by
  unfold pkd; split <;> simp <;> omega
def pkA (l : List (UInt8 × Nat)) : List UInt8 := l.flatMap pkd
/-- the first k pieces, told -/
def pkO (b : List UInt8) (k : Nat) : List UInt8 := pkA ((pcs b).take k)
theorem pkO_zero (b : List UInt8) : pkO b 0 = [] := by simp [pkO, pkA]
theorem pkO_succ (b : List UInt8) (k : Nat) (hk : k < (pcs b).length) : pkO b (k + 1) = pkO b k ++ pkd (at8 b (offP b k), runN (b.drop (offP b k))) := by
  rw [pkO, List.take_add_one, (pcs_get b k hk).2]
  simp [pkA, pkO]
theorem pkA_rate (f : Nat) : ∀ (k : Nat) (b : List UInt8), (pkA ((pcsF f b).take k)).length * 4 ≤ 5 * sumP ((pcsF f b).take k) := by
  intro k b
  generalize (pcsF f b).take k = l
  induction l with
  | nil => simp [pkA]
  | cons p l ih =>
    have := pkd_len p
    simp only [pkA, sumP, List.flatMap_cons, List.length_append, List.map_cons, List.sum_cons] at ih ⊢
    split at this <;> omega
theorem pkO_rate (b : List UInt8) (k : Nat) : 4 * (pkO b k).length ≤ 5 * offP b k := by
  have := pkA_rate b.length k b
  rw [Nat.mul_comm]; exact this
theorem pkO_le (b : List UInt8) (k : Nat) : (pkO b k).length ≤ 2 * b.length := by
  have := pkO_rate b k
  have := offP_le b k
  omega
/-- where there is no more room -/
structure Stop (b : List UInt8) (room k : Nat) : Prop where
  le : k ≤ (pcs b).length
  fits : (pkO b k).length ≤ room
  more : k < (pcs b).length → room < (pkO b (k + 1)).length
theorem pkO_mono (b : List UInt8) : ∀ (j i : Nat), i + j ≤ (pcs b).length → (pkO b i).length ≤ (pkO b (i + j)).length
  | 0, i, _ => Nat.le_refl _
  | j + 1, i, h => by
    have := pkO_mono b j i (by omega)
    rw [← Nat.add_assoc, pkO_succ b (i + j) (by omega), List.length_append]
    omega
theorem Stop.unique {b : List UInt8} {room i j : Nat} (h : Stop b room i) (h' : Stop b room j) : i = j := by
  have key : ∀ i j, Stop b room i → Stop b room j → ¬ i < j := fun i j h h' hij => by
    have h1 := h.more (by have := h'.le; omega)
    have h2 := pkO_mono b (j - (i + 1)) (i + 1) (by have := h'.le; omega)
    rw [show i + 1 + (j - (i + 1)) = j by omega] at h2
    have := h'.fits
    omega
  have := key i j h h'
  have := key j i h' h
  omega
theorem Stop.all {b : List UInt8} {room : Nat} (h : (pkO b (pcs b).length).length ≤ room) : Stop b room (pcs b).length := ⟨Nat.le_refl _, h, fun h' => by omega⟩

/-- what bytes say, behind a byte d of which r stood -/
def um : UInt8 → Nat → List UInt8 → List UInt8
  | _, _, [] => []
  | d, r, c :: xs => if r = 4 then List.replicate c.toNat d ++ um c 0 xs else c :: um c ((if 0 < r ∧ c ≠ d then 0 else r) + 1) xs
def say (p : List UInt8) : List UInt8 := um 0 0 p
theorem um_zero (d : UInt8) (xs : List UInt8) : um d 0 xs = say xs := by
  cases xs with
  | nil => rfl
  | cons c xs => simp [say, um]
theorem um_run (c : UInt8) (T : List UInt8) : ∀ (j r : Nat), 1 ≤ r → r + j ≤ 4 → um c r (List.replicate j c ++ T) = List.replicate j c ++ um c (r + j) T
  | 0, r, _, _ => by simp
  | j + 1, r, h1, h2 => by
    rw [List.replicate_succ, List.cons_append, um, if_neg (by omega), if_neg (by simp), um_run c T j (r + 1) (by omega) (by omega), show r + 1 + j = r + (j + 1) by omega]
    rfl
theorem um_other (c : UInt8) (r : Nat) (T : List UInt8) (hr : r < 4) (hT : ∀ d, T.head? = some d → d ≠ c) : um c r T = say T := by
  cases T with
  | nil => rfl
  | cons d xs =>
    have hd := hT d rfl
    have e1 : um c r (d :: xs) = d :: um d 1 xs := by
      show (if r = 4 then _ else _) = _
      rw [if_neg (by omega)]
      by_cases h0 : 0 < r
      · rw [if_pos ⟨h0, hd⟩]
      · rw [if_neg (fun h => h0 h.1), show r = 0 by omega]
    have e2 : say (d :: xs) = d :: um d 1 xs := by
      rw [say, um, if_neg (by omega), if_neg (by simp)]
    rw [e1, e2]
theorem say_head (b : List UInt8) (h0 : 0 < b.length) (n : Nat) (hn : runF 4 (at8 b 0) b = n) : say b = List.replicate n (at8 b 0) ++ um (at8 b 0) n (b.drop n) ∧ 1 ≤ n ∧ n ≤ 4 ∧ n ≤ b.length ∧ (n < 4 → ∀ d, (b.drop n).head? = some d → d ≠ at8 b 0) := by
  cases b with
  | nil => simp at h0
  | cons c xs =>
    have hc : at8 (c :: xs) 0 = c := by simp [at8]
    rw [hc] at hn ⊢
    have h1 : n = runF 3 c xs + 1 := by rw [← hn]; simp [runF]
    have h2 := runF_le c 4 (c :: xs)
    have h3 := runF_take c 4 (c :: xs)
    have h4 := runF_step c 4 (c :: xs) n (by omega)
    rw [hn] at h2 h3 h4
    have e : c :: xs = List.replicate n c ++ (c :: xs).drop n := by
      have := List.take_append_drop n (c :: xs)
      rw [h3] at this
      exact this.symm
    refine ⟨?_, by omega, h2.1, h2.2, fun hlt d hd heq => ?_⟩
    · obtain ⟨j, rfl⟩ : ∃ j, n = j + 1 := ⟨n - 1, by omega⟩
      conv => lhs; rw [e]
      rw [List.replicate_succ, List.cons_append, say, um, if_neg (by omega)]
      rw [show ((if 0 < 0 ∧ c ≠ 0 then 0 else 0) + 1 : Nat) = 1 by simp]
      rw [um_run c _ j 1 (by omega) (by omega), Nat.add_comm 1 j]
      rfl
    · rw [List.head?_drop] at hd
      obtain ⟨hlen, hv⟩ := List.getElem?_eq_some_iff.1 hd
      exact absurd (h4.2 ⟨hlen, hlt, by simp only [at8, List.getD_eq_getElem?_getD, hd, Option.getD_some, heq]⟩) (Nat.lt_irrefl _)
theorem say_short (b : List UInt8) (h0 : 0 < b.length) (n : Nat) (hn : runF 4 (at8 b 0) b = n) (h : n < 4 ∨ b.length ≤ 4) : say b = List.replicate n (at8 b 0) ++ say (b.drop n) := by
  obtain ⟨h1, h2, h3, h4, h5⟩ := say_head b h0 n hn
  rw [h1]
  congr 1
  by_cases hlt : n < 4
  · exact um_other _ _ _ hlt (h5 hlt)
  · have : b.drop n = [] := List.drop_eq_nil_of_le (by omega)
    rw [this]; rfl
theorem say_count (b : List UInt8) (h0 : 4 < b.length) (hn : runF 4 (at8 b 0) b = 4) : say b = List.replicate 4 (at8 b 0) ++ List.replicate (at8 b 4).toNat (at8 b 0) ++ say (b.drop 5) := by
  obtain ⟨h1, h2, h3, h4, h5⟩ := say_head b (by omega) 4 hn
  rw [h1, List.append_assoc]
  congr 1
  have : b.drop 4 = at8 b 4 :: b.drop 5 := by
    rw [List.drop_eq_getElem_cons (by omega)]
    congr 1
    simp [at8, h0]
  rw [this, um, if_pos rfl, um_zero]

/-- what a piece says -/
theorem say_pkd (c : UInt8) (n : Nat) (h1 : 1 ≤ n) (h2 : n ≤ 255) (T : List UInt8) (hT : n < 4 → ∀ d, T.head? = some d → d ≠ c) : say (pkd (c, n) ++ T) = List.replicate n c ++ say T := by
  by_cases h4 : 4 ≤ n
  · have e : pkd (c, n) ++ T = c :: (List.replicate 3 c ++ UInt8.ofNat (n - 4) :: T) := by
      simp only [pkd, if_pos h4, Nat.min_eq_right h4]; rfl
    rw [e, say, um, if_neg (by omega), show ((if 0 < 0 ∧ c ≠ 0 then 0 else 0) + 1 : Nat) = 1 by simp, um_run c _ 3 1 (by omega) (by omega), um, if_pos rfl, um_zero]
    have hz : (UInt8.ofNat (n - 4)).toNat = n - 4 := by simp [UInt8.toNat_ofNat']; omega
    rw [hz]
    have : List.replicate n c = c :: (List.replicate 3 c ++ List.replicate (n - 4) c) := by
      rw [← List.replicate_append_replicate.symm]
      rw [← List.replicate_succ]; congr 1; omega
    rw [this]; simp
  · have e : pkd (c, n) ++ T = List.replicate n c ++ T := by simp only [pkd, if_neg h4, Nat.min_eq_left (show n ≤ 4 by omega), List.append_nil]
    obtain ⟨j, rfl⟩ : ∃ j, n = j + 1 := ⟨n - 1, by omega⟩
    rw [e, List.replicate_succ, List.cons_append, say, um, if_neg (by omega), show ((if 0 < 0 ∧ c ≠ 0 then 0 else 0) + 1 : Nat) = 1 by simp, um_run c _ j 1 (by omega) (by omega), Nat.add_comm 1 j, um_other c (j + 1) T (by omega) (hT (by omega))]
    rfl
theorem pkA_head (f : Nat) (b : List UInt8) (k : Nat) (d : UInt8) (h : (pkA ((pcsF f b).take k)).head? = some d) : b.head? = some d := by
  cases f with
  | zero => simp [pcsF, pkA] at h
  | succ f =>
    cases b with
    | nil => simp [pcsF, pkA] at h
    | cons c xs =>
      cases k with
      | zero => simp [pkA] at h
      | succ k =>
        have hp := runN_pos (b := c :: xs) (by simp)
        obtain ⟨j, hj⟩ : ∃ j, min (runN (c :: xs)) 4 = j + 1 := ⟨min (runN (c :: xs)) 4 - 1, by omega⟩
        simp only [pcsF, List.take_succ_cons, pkA, List.flatMap_cons, pkd, hj, List.replicate_succ, List.cons_append, List.head?_cons] at h
        simpa using h
theorem say_pcsF : ∀ (f : Nat) (b : List UInt8) (k : Nat), b.length ≤ f → say (pkA ((pcsF f b).take k)) = b.take (sumP ((pcsF f b).take k))
  | 0, b, k, h => by simp [pcsF, pkA, sumP, say, um]
  | f + 1, [], k, h => by simp [pcsF, pkA, sumP, say, um]
  | f + 1, c :: xs, 0, h => by simp [pkA, sumP, say, um]
  | f + 1, c :: xs, k + 1, h => by
    have h1 := runN_pos (b := c :: xs) (by simp)
    have h2 := runN_le (c :: xs)
    have h3 := runN_take (c :: xs) (by simp)
    have h4 := runN_step (c :: xs) (runN (c :: xs)) h1 (Nat.le_refl _)
    have hl : ((c :: xs).drop (runN (c :: xs))).length ≤ f := by rw [List.length_drop]; simp only [List.length_cons] at h ⊢; omega
    have ih := say_pcsF f ((c :: xs).drop (runN (c :: xs))) k hl
    have e : pkA ((pcsF (f + 1) (c :: xs)).take (k + 1)) = pkd (c, runN (c :: xs)) ++ pkA ((pcsF f ((c :: xs).drop (runN (c :: xs)))).take k) := by
      simp [pcsF, pkA]
    have e2 : sumP ((pcsF (f + 1) (c :: xs)).take (k + 1)) = runN (c :: xs) + sumP ((pcsF f ((c :: xs).drop (runN (c :: xs)))).take k) := by
      simp [pcsF, sumP]
    rw [e, e2, say_pkd c _ h1 h2.1 _ (fun hlt d hd heq => by
      have := pkA_head _ _ _ _ hd
      rw [List.head?_drop] at this
      obtain ⟨hlen, hv⟩ := List.getElem?_eq_some_iff.1 this
      exact absurd (h4.2 ⟨hlen, by omega, by rw [show at8 (c :: xs) (runN (c :: xs)) = d by simp only [at8, List.getD_eq_getElem?_getD, this, Option.getD_some], heq]; simp [at8]⟩) (Nat.lt_irrefl _)), ih]
    rw [List.take_add, h3]
    simp [at8]
theorem say_pkO (b : List UInt8) (k : Nat) : say (pkO b k) = b.take (offP b k) := say_pcsF _ b k (Nat.le_refl _)

/-- one run -/
theorem runF_rep (c : UInt8) : ∀ (f m : Nat), runF f c (List.replicate m c) = min f m
  | 0, m => by simp [runF]
  | f + 1, 0 => by simp [runF]
  | f + 1, m + 1 => by
    rw [List.replicate_succ, runF, if_pos rfl, runF_rep c f m]; omega
theorem runN_rep (c : UInt8) (m : Nat) : runN (List.replicate m c) = min 255 m := by
  cases m with
  | zero => rfl
  | succ m => rw [List.replicate_succ, runN, runF_rep]; omega
def wantR (m : Nat) : Nat := m / 255 * 5 + if 4 ≤ m % 255 then 5 else m % 255
theorem pkA_rep (c : UInt8) : ∀ (f m : Nat), m ≤ f → (pkA (pcsF f (List.replicate m c))).length = wantR m
  | 0, m, h => by
    obtain rfl : m = 0 := by omega
    simp [pcsF, pkA, wantR]
  | f + 1, 0, h => by simp [pcsF, pkA, wantR]
  | f + 1, m + 1, h => by
    have hr := runN_rep c (m + 1)
    rw [List.replicate_succ] at hr ⊢
    rw [pcsF, hr, pkA, List.flatMap_cons, List.length_append, pkd_len]
    have e : (c :: List.replicate m c).drop (min 255 (m + 1)) = List.replicate (m + 1 - min 255 (m + 1)) c := by
      rw [← List.replicate_succ, List.drop_replicate]
    rw [e]
    have ih := pkA_rep c f (m + 1 - min 255 (m + 1)) (by omega)
    rw [pkA] at ih
    rw [ih]
    by_cases h5 : 255 ≤ m + 1
    · rw [Nat.min_eq_left h5]
      obtain ⟨x, rfl⟩ : ∃ x, m = x + 254 := ⟨m - 254, by omega⟩
      rw [show x + 254 + 1 - 255 = x by omega, show x + 254 + 1 = x + 255 by omega, wantR, wantR, Nat.add_mod_right, Nat.add_div_right _ (by omega)]
      simp; omega
    · rw [Nat.min_eq_right (by omega)]
      rw [show m + 1 - (m + 1) = 0 by omega, wantR, wantR, Nat.div_eq_of_lt (show m + 1 < 255 by omega), Nat.mod_eq_of_lt (show m + 1 < 255 by omega)]
      simp
theorem pkO_rep (c : UInt8) (m : Nat) : (pkO (List.replicate m c) (pcs (List.replicate m c)).length).length = wantR m := by
  rw [pkO, List.take_length, pcs, pkA_rep c _ m (by simp)]
end Go.Proofs.Ytjlhhbbciaeggaa
