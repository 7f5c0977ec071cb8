/- FactorLocal. -/
import Derived.Test.YtnlemaaglbbdnaaFacH
namespace Go.Proofs.Ytnlemaaglbbdnaa
set_option linter.unusedSimpArgs false
set_option linter.unusedVariables false
open Go.RowKit

set_option maxRecDepth 100000 in
set_option maxHeartbeats 4000000 in
theorem factorLocal_law (w : World) (ad : Option Addr) (n cap : Nat) (b : List UInt8) (hb : Rd w 1 ad n cap (B8 b)) (z : Nat) (hz : z < 65536) :
    Calls Try.prog 4 #[.slice ad n cap, .int .u16 (z : Int)] w fun e w' => e = .returned (.bool true) ∧ Below w.heap.size w w' := by
  by_cases hn : 400 < n
  · go_enter Try.func4, Try.ntmps4
    go_wp2_with fail
    go_ret
    exact ⟨rfl, Below.refl _ _⟩
  have hl := hb.len8
  obtain ⟨o, ho⟩ := ordE b
  have hlen := facT_len ho 0 0 (Nat.zero_le _)
  have hdrop := facT_drop ho 0 0 (Nat.zero_le _)
  have hget := fun j t => facT_get ho 0 0 (Nat.zero_le _) (j := j) (t := t)
  have hfac := factor_law w ad n cap b hb (by omega) o ho 0 (Nat.zero_le _) 0 (by decide)
  obtain ⟨l, hl0⟩ : ∃ l, facT b o 0 0 = l := ⟨_, rfl⟩
  rw [hl0] at hlen hdrop hget hfac
  simp only [Nat.zero_add] at hdrop hget
  obtain ⟨L, hL⟩ : ∃ L, l.length = L := ⟨_, rfl⟩
  rw [hL] at hlen hdrop hfac
  obtain ⟨k, hk⟩ : ∃ k, z % (L + 1) = k := ⟨_, rfl⟩
  have hkL : k < L + 1 := by rw [← hk]; exact Nat.mod_lt _ (by omega)
  have hki : (z : Int).tmod ((L : Int) + 1) = (k : Int) := by rw [← hk]; rfl
  have hL4 : L ≤ 400 := by omega
  obtain ⟨hd1, hd2⟩ := hdrop k (by omega)
  obtain ⟨at0, hat⟩ : ∃ at0, sumA (l.take k) = at0 := ⟨_, rfl⟩
  rw [hat] at hd1 hd2
  have HL := Lib.hid hl; clear hl
  have HO := Lib.hid ho; clear ho
  have HLL := Lib.hid hL; clear hL
  have HD := Lib.hid hd1; clear hd1
  have HGET := Lib.hid hget; clear hget
  have HAT := Lib.hid hat; clear hat
  rw [HL.out] at hd2
  have hL1 : ((L : Int) + 1 == 0) = false := beq_eq_false_iff_ne.2 (by omega)
  clear hk hdrop hlen hl0
  go_enter Try.func4, Try.ntmps4
  go_wp2_with fail
  refine hfac.mono ?_
  rintro e w1 ⟨a1, c1, rfl, o1, b1⟩
  clear hfac
  have r1 := o1.rd
  clear o1
  go_wp2_with fail
  clear hki hL1
  go_loopg [8, 9] k (fun g v8 v9 wr => ∃ j : Nat, j ≤ k ∧ g = k - j ∧ v8 = .int .i64 ((sumA (l.take j) : Nat) : Int) ∧ v9 = .int .i64 (j : Int) ∧ w1 = wr)
  case atStart => exact ⟨0, Nat.zero_le _, by simp, rfl, rfl, rfl⟩
  case round =>
    obtain ⟨j, hj, rfl, rfl, rfl, rfl⟩ := hrel
    by_cases hlt : j < k
    · obtain ⟨t, ht, ne, e0, e1, e2⟩ := r1.tok (j := j) (by omega)
      obtain ⟨p1, p2, p3⟩ := HGET.out j t ht
      have hok : TokOk t := by rw [p2]; exact tokAt_ok HO.out 0 p1
      have hst := sumA_take l j t ht
      have hadv := hok.adv
      rw [HL.out] at p3
      have hsa : sumA (l.take j) + adv t ≤ n := p3
      generalize sumA (l.take j) = s at *
      generalize adv t = d at *
      have HST := Lib.hid hst; clear hst
      clear p1 p2 p3 hok
      go_wp2_with fail
      go_roundg (k - (j + 1))
      case measure => omega
      case rel => exact ⟨j + 1, by omega, rfl, by rw [HST.out]; simp, by simp, rfl⟩
    · obtain rfl : j = k := by omega
      rw [HAT.out]
      go_wp2_with fail
      refine (factor_law w1 ad n cap b (hb.below b1) (by omega) o HO.out at0 hd2 0 (by decide)).mono ?_
      rw [← HD.out, List.length_drop, HLL.out]
      rintro e w2 ⟨a2, c2, rfl, o2, b2⟩
      have r2 := o2.rd
      have r12 := r1.below b2
      have b12 := b1.trans (b2.mono b1.size)
      clear o2 b2 b1 hb r1
      obtain ⟨M, hM⟩ : ∃ M, L - j = M := ⟨_, rfl⟩
      rw [hM] at r2 ⊢
      have hM2 : (L : Int) - (j : Int) = (M : Int) := by omega
      go_wp2_with fail
      clear hM2
      go_loopg [12] M (fun g v wr => ∃ i : Nat, i ≤ M ∧ g = M - i ∧ v = .int .i64 (i : Int) ∧ Below w2.heap.size w2 wr)
      case atStart => exact ⟨0, Nat.zero_le _, by simp, rfl, Below.refl _ _⟩
      case round =>
        obtain ⟨i, hi, rfl, rfl, bw⟩ := hrel
        rename World => wr
        by_cases hlt : i < M
        · obtain ⟨t, ht, ne, e0, e1, e2⟩ := (r2.below bw).tok hlt
          obtain ⟨x, hx⟩ : ∃ x, j + i = x := ⟨_, rfl⟩
          have hx2 : (j : Int) + (i : Int) = (x : Int) := by omega
          have hxL : x < L := by omega
          obtain ⟨t', ht', ne', d0, d1, d2⟩ := (r12.below bw).tok hxL
          rw [List.getElem?_drop, hx, ht'] at ht
          have hte : t' = t := Option.some.inj ht
          rw [hte] at d0 d1 d2
          clear hte ht ht'
          obtain ⟨tl, td, tb⟩ := t
          simp only at e0 e1 e2 d0 d1 d2
          have HX := Lib.hid hx; clear hx
          have wx : IntKind.i64.wrap (x : Int) = (x : Int) := IntWalk.i64_in _ (by omega)
          go_wp2_with fail
          (try simp only [List.append])
          refine wp_region_quiet_lit (by kernel_rfl) (by kernel_rfl) ?_
          repeat (go_big_quiet_step (fail))
          refine wpQuiet_nil ?_
          intro _ hw'
          obtain ⟨nq, hw''⟩ := hw'
          subst hw''
          go_wp2_with fail
          go_roundg (M - (i + 1))
          case measure => omega
          case rel => exact ⟨i + 1, by omega, rfl, by simp, bDraws bw nq⟩
        · obtain rfl : i = M := by omega
          go_wp2_with fail
          refine (tells_any wr).mono ?_
          rintro e w9 ⟨rfl, b9⟩
          go_wp2_with fail
          go_ret
          have b3 := b12.trans (bw.mono b12.size)
          exact ⟨rfl, b3.trans (b9.mono b3.size)⟩
end Go.Proofs.Ytnlemaaglbbdnaa
