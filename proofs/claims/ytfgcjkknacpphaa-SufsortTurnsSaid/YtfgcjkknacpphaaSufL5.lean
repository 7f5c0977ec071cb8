/- The law SufsortBack, walked. -/
import Derived.Test.YtfgcjkknacpphaaSufK
namespace Go.Proofs.Ytfgcjkknacpphaa
set_option linter.unusedSimpArgs false
set_option linter.unusedVariables false
open Go.RowKit

/-- the places of an order, and back -/
theorem Pl.good {xs : List Int} {out : List Nat} (h : Pl xs out) (hg : Good xs) : Inv xs out := by
  rcases h with ⟨h1, _⟩ | ⟨_, h2⟩
  · exact absurd hg h1
  · exact h2
theorem inv_good {o p : List Nat} {n : Nat} (hl : o.length = n) (hg : Good (o.map fun c : Nat => (c : Int))) (hi : Inv (o.map fun c : Nat => (c : Int)) p) :
    Good (p.map fun c : Nat => (c : Int)) ∧ (∀ v, v < n → atN p v < n ∧ atN o (atN p v) = v) ∧ p.length = n := by
  have hp : p.length = n := by have := hi.1; simpa [hl] using this
  have h1 : ∀ v, v < n → atN p v < n ∧ atN o (atN p v) = v := fun v hv => by
    have := hi.at hg (v := v) (by simpa [hl] using hv)
    rw [List.length_map, hl, atI_nat] at this
    exact ⟨this.1, by omega⟩
  exact ⟨Good.ofNat hp (fun v hv => (h1 v hv).1) (fun u v hu hv e => by rw [← (h1 u hu).2, ← (h1 v hv).2, e]), h1, hp⟩
theorem inv_back {o p q : List Nat} {n : Nat} (hl : o.length = n) (hg : Good (o.map fun c : Nat => (c : Int))) (hi : Inv (o.map fun c : Nat => (c : Int)) p) (hq : Inv (p.map fun c : Nat => (c : Int)) q) : q = o := by
  obtain ⟨h1, h2, h3⟩ := inv_good hl hg hi
  refine Inv.unique h1 hq ⟨by simp [hl, h3], fun v hv => ?_⟩
  rw [List.length_map, h3] at hv
  rw [atI_nat, show ((atN p v : Nat) : Int).toNat = atN p v by omega]
  exact (h2 v hv).2

set_option maxRecDepth 100000 in
set_option maxHeartbeats 2000000 in
theorem sufsortBack_law (w : World) (ad : Option Addr) (n cap : Nat) (b : List UInt8) (hb : Rd w 1 ad n cap (B8 b)) :
    Calls Try.prog 7 #[.slice ad n cap] w fun e w' => e = .returned (.bool true) ∧ Below w.heap.size w w' := by
  by_cases hn : 1000 < n
  · go_enter Try.func7, Try.ntmps7
    go_wp2
    go_ret
    exact ⟨rfl, Below.refl _ _⟩
  · have hl := hb.len8
    have HL := Lib.hid hl; clear hl
    go_enter Try.func7, Try.ntmps7
    go_wp2_with fail
    refine (ends_law _ _ _ _ b hb (by omega)).mono ?_
    rintro e w2 ⟨g2, o2, rfl, own2, ord2, c2⟩
    have hol : o2.length = n := by rw [ord2.len, HL.out]
    have hgd := ord2.good
    have r2 := own2.rd
    rw [N64_I64] at r2
    clear ord2
    have HOL := Lib.hid hol; clear hol
    go_wp2_with fail
    refine (places_any _ _ _ _ _ r2 (by omega)).mono ?_
    rintro e w3 ⟨a3, m3, cp3, o3, rfl, own3, p3, b3⟩
    have c3 := c2.trans (b3.mono c2.size)
    have own23 := own2.below b3
    have hinv := p3.good hgd
    obtain ⟨g3, at3, len3⟩ := inv_good HOL.out hgd hinv
    have hm3 := own3.rd.lenN
    rw [len3] at hm3
    subst hm3
    have own3' := own3.lower (lo' := w.heap.size) c2.size
    have own2' := own23
    clear r2 b3 c2 own2 p3 own3 own23
    rename Nat => cpx
    have HG := Lib.hid hgd; clear hgd
    have HI := Lib.hid hinv; clear hinv
    have H3 := Lib.hid g3; clear g3
    have HA := Lib.hid at3; clear at3
    have HN3 := Lib.hid len3; clear len3
    go_wp2_with fail
    go_loopg [5] n (fun k i wr => ∃ j : Nat, j ≤ n ∧ k = n - j ∧ i = .int .i64 j ∧ Below w3.heap.size w3 wr)
    case atStart => exact ⟨0, Nat.zero_le _, by simp, rfl, Below.refl _ _⟩
    case round =>
      obtain ⟨j, hj, rfl, rfl, hbi⟩ := hrel
      rename World => wi
      have oe := own2'.below hbi
      have op := own3'.below hbi
      by_cases hlt : j < n
      · obtain ⟨h1, h2⟩ := HA.out j hlt
        obtain ⟨np, cp⟩ := op.rd.getN hlt
        obtain ⟨ce, _⟩ := oe.getN h1
        rw [h2] at ce
        have h3 : ¬ (n : Int) ≤ (atN o3 j : Int) := by omega
        have h4 : ¬ (atN o3 j : Int) < 0 := by omega
        clear h2
        generalize atN o3 j = q at *
        go_wp2_with fail
        go_roundg (n - (j + 1))
        case measure => omega
        case rel => exact ⟨j + 1, by omega, rfl, by simp, hbi⟩
      · obtain rfl : n = j := by omega
        have c4 := c3.trans (hbi.mono c3.size)
        have r4 := op.rd
        rw [N64_I64] at r4
        clear hlt hj
        go_wp2_with fail
        refine (places_any _ _ _ _ _ r4 (by omega)).mono ?_
        rintro e w5 ⟨a5, m5, cp5, o5, rfl, own5, p5, b5⟩
        have c5 := c4.trans (b5.mono c4.size)
        have oe5 := oe.below b5
        have hin5 := p5.good H3.out
        go_wp2_with fail
        refine (same_nat _ _ _ _ _ _ _ _ _ own5.rd oe5.rd (inv_back HOL.out HG.out HI.out hin5)).mono ?_
        rintro e w6 ⟨rfl, b6⟩
        have c6 := c5.trans (b6.mono c5.size)
        clear own5 oe5 oe op r4 b5 b6 c5 c4
        go_wp2_with fail
        refine (sorts_any _).mono ?_
        rintro e w8 ⟨rfl, b8⟩
        have c8 := c6.trans (b8.mono c6.size)
        clear c6 b8
        go_wp2_with fail
        go_ret
        exact ⟨rfl, c8⟩
end Go.Proofs.Ytfgcjkknacpphaa
