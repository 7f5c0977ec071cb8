/- FactorSays. -/
import Derived.Test.YtnlemaaglbbdnaaFacH
namespace Go.Proofs.Ytnlemaaglbbdnaa
set_option linter.unusedSimpArgs false
set_option linter.unusedVariables false
open Go.RowKit

def litT (b : UInt8) : Tok := ⟨0, 0, b⟩
theorem T3_app (xs ys : List Tok) : T3 xs ++ T3 ys = T3 (xs ++ ys) := by simp [T3]
theorem expT_lits (bs : List UInt8) (ts : List Tok) : ∀ o, expT o (bs.map litT ++ ts) = expT (o ++ bs) ts := by
  induction bs with
  | nil => intro o; simp
  | cons b bs ih =>
    intro o
    rw [List.map_cons, List.cons_append, expT, if_pos (show (litT b).len = 0 from rfl), ih]
    simp [litT]
theorem repN_com {b : List UInt8} {p d : Nat} (h1 : 1 ≤ d) (hd : d ≤ p) (hp : p ≤ b.length) : ∀ m, m ≤ com b (p - d) p → repN d m (b.take p) = b.take (p + m)
  | 0, _ => rfl
  | m + 1, hm => by
    obtain ⟨c1, c2, c3⟩ := com_at (b := b) (i := p - d) (j := p) (s := m) (by omega)
    rw [repN, repN_com h1 hd hp m (by omega), rep1, ← Nat.add_assoc, List.take_add_one]
    congr 1
    have hl : (b.take (p + m)).length = p + m := by rw [List.length_take]; omega
    have e : at8 (b.take (p + m)) (p + m - d) = at8 b (p - d + m) := by
      rw [show p - d + m = p + m - d by omega]
      simp only [at8, List.getD_eq_getElem?_getD]
      rw [List.getElem?_take_of_lt (by omega)]
    rw [hl, e, c3]
    simp [at8, c2]
theorem expT_facT {b : List UInt8} {o : List Nat} (ho : Ordered b false o) (walk : Nat) : ∀ (k p : Nat), b.length - p ≤ k → p ≤ b.length → expT (b.take p) (facT b o walk p) = (b, 0) := by
  intro k
  induction k with
  | zero =>
    intro p h hp
    rw [facT_end _ _ _ _ (by omega), expT, List.take_of_length_le (by omega)]
  | succ k ih =>
    intro p h hp
    rcases Nat.lt_or_ge p b.length with hlt | hge
    · by_cases hm : 0 < (lng b o walk p).1
      · rw [facT_rep b o walk p hlt hm]
        rcases lng_rp ho walk hlt with e | ⟨a1, a2, a3, a4, a5, a6⟩
        · omega
        · have hin := com_in b (i := p) (p - (lng b o walk p).2) (by omega)
          rw [com_comm] at hin
          rw [expT, if_neg (by dsimp only; omega), if_neg (by dsimp only; rw [List.length_take]; omega)]
          dsimp only
          rw [Int.toNat_natCast, Int.toNat_natCast, repN_com a3 a5 hp _ a6]
          exact ih _ (by omega) (by omega)
      · rw [facT_lit b o walk p hlt (by omega), expT, if_pos rfl]
        have e : b.take p ++ [at8 b p] = b.take (p + 1) := by rw [List.take_add_one]; simp [at8, hlt]
        dsimp only
        rw [e]
        exact ih _ (by omega) (by omega)
    · rw [facT_end _ _ _ _ hge, expT, List.take_of_length_le (by omega)]
theorem facT_mem {b : List UInt8} {o : List Nat} (ho : Ordered b false o) (walk f : Nat) (hf : f ≤ b.length) {t : Tok} (h : t ∈ facT b o walk f) : TokOk t := by
  obtain ⟨j, hj, rfl⟩ := List.getElem_of_mem h
  obtain ⟨h1, h2, _⟩ := facT_get ho walk f hf (j := j) (t := (facT b o walk f)[j]) (by simp)
  rw [h2]; exact tokAt_ok ho walk h1
theorem expand_facT {b : List UInt8} {o : List Nat} (ho : Ordered b false o) (walk f : Nat) (hf : f ≤ b.length) : expand ((b.take f).map litT ++ facT b o walk f) = (b, 0) := by
  have h1 : ((b.take f).map litT ++ facT b o walk f).any (fun t => !mayB t) = false := by
    rw [List.any_eq_false]
    intro u hu
    rcases List.mem_append.1 hu with h1 | h1
    · obtain ⟨c, _, rfl⟩ := List.mem_map.1 h1
      simp [mayB, litT]
    · rw [(facT_mem ho walk f hf h1).may]; simp
  rw [expand, h1, if_neg (by decide), expT_lits, List.nil_append]
  exact expT_facT ho walk _ f (Nat.le_refl _) hf

set_option maxRecDepth 100000 in
set_option maxHeartbeats 4000000 in
theorem factorSays_law (w : World) (ad : Option Addr) (n cap : Nat) (b : List UInt8) (hb : Rd w 1 ad n cap (B8 b)) (f : Int) (hf : -9223372036854775808 ≤ f ∧ f ≤ 9223372036854775807) (k : Int) (hk : -9223372036854775808 ≤ k ∧ k ≤ 9223372036854775807) :
    Calls Try.prog 7 #[.slice ad n cap, .int .i64 f, .int .i64 k] w fun e w' => e = .returned (.bool true) ∧ Below w.heap.size w w' := by
  by_cases hn : 3000 < n
  · go_enter Try.func7, Try.ntmps7
    go_wp2_with fail
    go_ret
    exact ⟨rfl, Below.refl _ _⟩
  by_cases h1 : f < 0
  · skip
    go_enter Try.func7, Try.ntmps7
    go_wp2_with fail
    refine (factor_bad w ad n cap f k (by unfold FBad; omega)).mono ?_
    rintro e w1 ⟨rfl, rfl⟩
    go_wp2_with fail
    refine (tells_any w).mono ?_
    rintro e w9 ⟨rfl, b9⟩
    go_wp2_with fail
    go_ret
    exact ⟨rfl, b9⟩
  by_cases h2 : (n : Int) < f
  · skip
    go_enter Try.func7, Try.ntmps7
    go_wp2_with fail
    refine (factor_bad w ad n cap f k (by unfold FBad; omega)).mono ?_
    rintro e w1 ⟨rfl, rfl⟩
    go_wp2_with fail
    refine (tells_any w).mono ?_
    rintro e w9 ⟨rfl, b9⟩
    go_wp2_with fail
    go_ret
    exact ⟨rfl, b9⟩
  by_cases h3 : k < 0
  · skip
    go_enter Try.func7, Try.ntmps7
    go_wp2_with fail
    refine (factor_bad w ad n cap f k (by unfold FBad; omega)).mono ?_
    rintro e w1 ⟨rfl, rfl⟩
    go_wp2_with fail
    refine (tells_any w).mono ?_
    rintro e w9 ⟨rfl, b9⟩
    go_wp2_with fail
    go_ret
    exact ⟨rfl, b9⟩
  by_cases h4 : 1048576 < k
  · skip
    go_enter Try.func7, Try.ntmps7
    go_wp2_with fail
    refine (factor_bad w ad n cap f k (by unfold FBad; omega)).mono ?_
    rintro e w1 ⟨rfl, rfl⟩
    go_wp2_with fail
    refine (tells_any w).mono ?_
    rintro e w9 ⟨rfl, b9⟩
    go_wp2_with fail
    go_ret
    exact ⟨rfl, b9⟩
  obtain ⟨F, rfl⟩ : ∃ F : Nat, f = (F : Int) := ⟨f.toNat, by omega⟩
  obtain ⟨K, rfl⟩ : ∃ K : Nat, k = (K : Int) := ⟨k.toNat, by omega⟩
  have hFn : F ≤ n := by omega
  have hK : K ≤ 1048576 := by omega
  have hl := hb.len8
  obtain ⟨o, ho⟩ := ordE b
  have hfac := fun W (h : Rd W 1 ad n cap (B8 b)) => factor_law W ad n cap b h (by omega) o ho F hFn K hK
  have hlen := facT_len ho K F (by omega)
  have hexp := expand_facT ho K F (by omega)
  generalize facT b o K F = l at *
  obtain ⟨L, hL⟩ : ∃ L, l.length = L := ⟨_, rfl⟩
  simp only [hL] at hfac hlen
  have hLn : F + L ≤ n := by omega
  have HL := Lib.hid hl; clear hl
  have HEX := Lib.hid hexp; clear hexp
  have HLL := Lib.hid hL; clear hL
  have HF := Lib.hid hfac; clear hfac hlen ho
  clear hf hk
  have q0 : decide (n < F) = false := deF (by omega)
  go_enter Try.func7, Try.ntmps7
  go_wp2_with fail
  refine (HF.out w hb).mono ?_
  rintro e w1 ⟨a1, c1, rfl, o1, b1⟩
  have r1 := o1.rd
  clear o1
  go_wp2_with fail
  go_loopg [9, 10] F (fun g v9 v10 wr => ∃ (i : Nat) (a : Option Addr) (c : Nat), i ≤ F ∧ g = F - i ∧ v9 = .slice a i c ∧ v10 = .int .i64 (i : Int) ∧ Below w1.heap.size w1 wr ∧ Own wr 31 3 w1.heap.size a i c (T3 ((b.take i).map litT)))
  case atStart => exact ⟨0, none, 0, Nat.zero_le _, by simp, rfl, rfl, Below.refl _ _, Own.nil _ _ _ _⟩
  case round =>
    obtain ⟨i, a, c, hi, rfl, rfl, rfl, bw, ow⟩ := hrel
    rename World => wr
    have hbr := hb.below (b1.trans (bw.mono b1.size))
    by_cases hlt : i < F
    · obtain ⟨ne, cb⟩ := hbr.get8 (k := i) (by omega)
      have hst : T3 ((b.take i).map litT) ++ [.int .i64 0, .int .i64 0, .int .u8 ((at8 b i).toNat : Int)] = T3 ((b.take (i + 1)).map litT) := by
        rw [List.take_add_one, List.map_append, show (b[i]?.toList.map litT) = [litT (at8 b i)] by simp [at8, show i < b.length by rw [HL.out]; omega], ← T3_snoc]
        rfl
      generalize at8 b i = v at *
      have HST := Lib.hid hst; clear hst
      go_wp2_with (refine wpList_push rfl _ _ _ rfl tT rfl rfl ow (ys := [.int .i64 0, .int .i64 0, .int .u8 (v.toNat : Int)]) rfl (by simp [Value.oneCell']) (by unfold maxLen; omega) (by omega) bw.size ?_; intro a4 c4 w4 o4 g4 n4)
      rw [HST.out] at o4
      go_roundg (F - (i + 1))
      case measure => omega
      case rel => exact ⟨i + 1, a4, c4, hlt, rfl, rfl, by simp, Own.grown bw ow g4 bw.size (Nat.le_refl _), o4⟩
    · obtain rfl : i = F := by omega
      have r1w := r1.below bw
      go_wp2_with (refine wpList_app rfl _ _ _ rfl tT rfl rfl ow r1w (by unfold maxLen; omega) (by omega) bw.size ?_; intro a4 c4 w4 o4 g4 n4)
      have bw4 := Own.grown bw ow g4 bw.size (Nat.le_refl _)
      rw [T3_app] at o4
      have r14 := r1.below bw4
      refine (expand_law w4 a4 (i + L) c4 _ o4.rd (by omega)).mono ?_
      intro e w5 h5
      unfold ExpPost at h5
      rw [HEX.out] at h5
      obtain ⟨a5, c5, rfl, o5, b5⟩ := h5
      dsimp only at o5 ⊢
      rw [HL.out] at o5 ⊢
      have r5 := o5.rd
      have b15 := b1.trans ((bw4.mono b1.size).trans (b5.mono (Nat.le_trans b1.size bw4.size)))
      have r15 := r14.below b5
      clear o5 o4 b5 bw4 g4 n4 r14 r1w ow bw r1 hbr
      go_wp2_with fail
      refine (HF.out w5 (hb.below b15)).mono ?_
      rintro e w6 ⟨a6, c6, rfl, o6, b6⟩
      have r6 := o6.rd
      have r16 := r15.below b6
      have b16 := b15.trans (b6.mono b15.size)
      have s1 := rstr (r5.below b6)
      have s2 := rstr (hb.below b16)
      clear o6 b6 b15 r15 r5 b1
      go_wp2_with fail
      clear s1 s2
      go_loopg [15] L (fun g v wr => ∃ j : Nat, j ≤ L ∧ g = L - j ∧ v = .int .i64 (j : Int) ∧ Below w6.heap.size w6 wr)
      case atStart => exact ⟨0, Nat.zero_le _, by simp, rfl, Below.refl _ _⟩
      case round =>
        obtain ⟨j, hj, rfl, rfl, bw⟩ := hrel
        rename World => wr
        by_cases hlt : j < L
        · obtain ⟨t, ht, nx, e0, e1, e2⟩ := (r16.below bw).tok hlt
          obtain ⟨t', ht', nx', d0, d1, d2⟩ := (r6.below bw).tok hlt
          rw [ht] at ht'
          have hte : t = t' := Option.some.inj ht'
          rw [← hte] at d0 d1 d2
          clear hte ht ht'
          obtain ⟨tl, td, tb⟩ := t
          simp only at e0 e1 e2 d0 d1 d2
          have hne := fun k => neq_tok (wr.drewN k) tl td (tb.toNat : Int)
          go_wp2_with fail
          (try simp only [List.append])
          refine wp_region_quiet_lit (by kernel_rfl) (by kernel_rfl) ?_
          repeat (go_big_quiet_step (fail))
          refine wpQuiet_nil ?_
          intro _ hw'
          obtain ⟨nq, hw''⟩ := hw'
          subst hw''
          go_wp2_with fail
          go_roundg (L - (j + 1))
          case measure => omega
          case rel => exact ⟨j + 1, by omega, rfl, by simp, bDraws bw nq⟩
        · obtain rfl : j = L := by omega
          go_wp2_with fail
          refine (tells_any wr).mono ?_
          rintro e w9 ⟨rfl, b9⟩
          go_wp2_with fail
          go_ret
          have b3 := b16.trans (bw.mono b16.size)
          exact ⟨rfl, b3.trans (b9.mono b3.size)⟩
end Go.Proofs.Ytnlemaaglbbdnaa
