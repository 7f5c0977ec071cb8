/- FrontSame. -/
import Derived.Test.YtindbmfccgeikaaFroN
namespace Go.Proofs.Ytindbmfccgeikaa
set_option linter.unusedSimpArgs false
set_option linter.unusedVariables false
open Go.RowKit

theorem bstr_ne {xs ys : List UInt8} (h : xs ≠ ys) : bstr xs ≠ bstr ys := fun e => h (by rw [← bstr_list xs, e, bstr_list])
set_option maxRecDepth 100000 in
set_option maxHeartbeats 8000000 in
theorem frontSame_law (w : World) (ad : Option Addr) (n cap : Nat) (us : List UInt8) (hu : Rd w 1 ad n cap (B8 us)) (bd : Option Addr) (M cap2 : Nat) (ss : List Int) (hs : Rd w 1 bd M cap2 (I64 ss)) :
    Calls Try.prog 6 #[.slice ad n cap, .slice bd M cap2] w fun e w' => e = .returned (.bool true) ∧ Below w.heap.size w w' := by
  by_cases hn : 300 < n
  · go_enter Try.func6, Try.ntmps6
    go_wp2_with fail
    go_ret
    exact ⟨rfl, Below.refl _ _⟩
  by_cases hM : 400 < M
  · go_enter Try.func6, Try.ntmps6
    go_wp2_with fail
    go_ret
    exact ⟨rfl, Below.refl _ _⟩
  have hget := get_law w ad n cap us hu bd M cap2 ss hs 5000 (by omega) (by omega) (by decide)
  go_enter Try.func6, Try.ntmps6
  go_wp2_with fail
  refine hget.mono ?_
  rintro e w1 ⟨⟨k, hR, rfl⟩ | ⟨b, a, c, hR, rfl, o1, hb5⟩, b1⟩
  · have hk : k = 5 ∨ k = 2 := by
      unfold getR at hR
      split at hR
      · injection hR with h; exact .inl h.symm
      · split at hR
        · injection hR with h; exact .inr h.symm
        · split at hR
          · injection hR with h; exact .inr h.symm
          · cases hR
    clear hR hu hs
    rcases hk with rfl | rfl
    · go_wp2_with fail
      refine (says_any _).mono ?_
      rintro e w9 ⟨rfl, b9⟩
      go_wp2_with fail
      go_ret
      exact ⟨rfl, b1.trans (b9.mono b1.size)⟩
    · go_wp2_with fail
      refine (says_any _).mono ?_
      rintro e w9 ⟨rfl, b9⟩
      go_wp2_with fail
      go_ret
      exact ⟨rfl, b1.trans (b9.mono b1.size)⟩
  · have hput := put_law w1 a b.length c b o1.rd (by omega)
    have hso := fun h => same_ok hR h
    have hu1 := hu.below b1
    have hs1 := hs.below b1
    clear hR hget o1 hu hs
    generalize usedL b = U at *
    generalize putL b = P at *
    obtain ⟨q, hq⟩ : ∃ q, b.length = q := ⟨_, rfl⟩
    rw [hq] at hput ⊢
    clear hq hb5
    have HSO := Lib.hid hso; clear hso
    go_wp2_with fail
    refine hput.mono ?_
    rintro e w2 ⟨a2, c2, a3, c3, rfl, o2, o3, b2⟩
    have b12 := b1.trans (b2.mono b1.size)
    have s1 := rstr o2.rd
    have s2 := rstr (hu1.below b2)
    have r3 := o3.rd
    have hs2 := hs1.below b2
    clear o2 o3 hput hu1 hs1 b1 b2
    by_cases hU : U = us
    · subst hU
      have hsame := same_law w2 a3 bd P.length c3 M cap2 (toI P) ss (by rw [show I64 (toI P) = N64 P by simp [toI, I64, N64, Function.comp_def]]; exact r3) hs2
      rw [show decide (toI P = ss) = true by rw [decide_eq_true_eq]; exact HSO.out rfl] at hsame
      clear r3 hs2
      go_wp2_with fail
      refine hsame.mono ?_
      rintro e w4 ⟨rfl, b4⟩
      have b14 := b12.trans (b4.mono b12.size)
      go_wp2_with fail
      refine (says_any _).mono ?_
      rintro e w9 ⟨rfl, b9⟩
      go_wp2_with fail
      go_ret
      exact ⟨rfl, b14.trans (b9.mono b14.size)⟩
    · have hne := bstr_ne hU
      have hne2 : (U == us) = false := beq_eq_false_iff_ne.2 hU
      clear r3 hs2 HSO
      go_wp2_with fail
      refine (says_any _).mono ?_
      rintro e w9 ⟨rfl, b9⟩
      go_wp2_with fail
      go_ret
      exact ⟨rfl, b12.trans (b9.mono b12.size)⟩
end Go.Proofs.Ytindbmfccgeikaa
